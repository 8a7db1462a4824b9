/- Part 8 of what the laws of this seat stand on: Hr, Hs, Id, Ie, If, Ig. -/
import Derived.Test.YtaicbllfkehhjaaZ7

/- What is kept by every operation on a chamber; what is reached when all has been sent. Plain words. -/
namespace Go.Proofs.Ytaicbllfkehhjaa

def In1 (L : List Cl) (c : Cl) : Prop := ∃ d, getC L c.id = some d ∧ d.after = c.after ∧ d.pt = c.pt ∧ (c.gone = true → d.gone = true)
theorem Kept.in1 {L M : List Cl} {c : Cl} (h : Kept L M) (k : In1 L c) : In1 M c := by
  obtain ⟨d, h1, h2, h3, h4⟩ := k
  obtain ⟨e, k1, k2, k3, k4⟩ := h _ d h1
  exact ⟨e, k1, k2.trans h2, k3.trans h3, fun g => k4 (h4 g)⟩
theorem Kept.mem {L M : List Cl} (hu : Uq L) (h : Kept L M) {c : Cl} (hc : c ∈ L) : In1 M c := h _ c (getC_of hu hc)
theorem Kept.of_mem {L M : List Cl} (h : ∀ c ∈ L, In1 M c) : Kept L M := fun t c hc => by
  obtain ⟨h1, rfl⟩ := getC_mem hc
  exact h c h1
theorem kept_both {L M : List Cl} (hl : Uq L) (hm : Uq M) (h : Kept L M) (k : Kept M L) : L.Perm M := perm_of_getC hl hm fun t => by
  have key : ∀ {L M : List Cl}, Kept L M → Kept M L → ∀ c, getC L t = some c → getC M t = some c := fun {L M} h k c hc => by
    obtain ⟨d, h1, h2, h3, h4⟩ := h t c hc
    obtain ⟨e, k1, k2, k3, k4⟩ := k t d h1
    rw [hc] at k1
    injection k1 with k1
    subst k1
    have : d = c := Cl.ext' ((getC_mem h1).2.trans (getC_mem hc).2.symm) h2 h3 (by
      cases hg : d.gone with
      | true => exact (k4 hg).symm
      | false =>
        cases hc' : c.gone with
        | true => rw [h4 hc'] at hg; cases hg
        | false => rfl)
    rw [h1, this]
  cases hL : getC L t with
  | some c => exact (key h k c hL).symm
  | none =>
    cases hM : getC M t with
    | none => rfl
    | some d => rw [key k h d hM] at hL; cases hL
theorem len_sub : ∀ {X Z : List St2}, X.Nodup → (∀ x ∈ X, x ∈ Z) → X.length ≤ Z.length
  | [], _, _, _ => Nat.zero_le _
  | x :: X, Z, hn, hs => by
    have h1 := List.nodup_cons.1 hn
    have hx := hs x List.mem_cons_self
    have h2 := len_sub (X := X) (Z := Z.erase x) h1.2 fun y hy => (List.mem_erase_of_ne (fun e => by subst e; exact h1.1 hy)).2 (hs y (List.mem_cons_of_mem _ hy))
    have h3 := List.length_erase_of_mem hx
    have h4 : 0 < Z.length := List.length_pos_of_mem hx
    rw [List.length_cons]
    omega
theorem uq_ids {L : List Cl} (h : Uq L) : (L.map (·.id)).Nodup := List.pairwise_map.2 h
theorem kept_len {L Z : List Cl} (hl : Uq L) (h : Kept L Z) : L.length ≤ Z.length := by
  have := len_sub (uq_ids hl) (Z := Z.map (·.id)) fun x hx => by
    obtain ⟨c, hc, rfl⟩ := List.mem_map.1 hx
    obtain ⟨d, h1, _⟩ := h.mem hl hc
    exact List.mem_map.2 ⟨d, (getC_mem h1).1, (getC_mem h1).2⟩
  simpa using this
theorem kept_len_lt {L Z : List Cl} {c : Cl} (hl : Uq L) (h : Kept L Z) (hn : getC L c.id = none) (hc : In1 Z c) : L.length < Z.length := by
  have h1 := uq_snoc hl hn
  have h2 : Kept (L ++ [c]) Z := Kept.of_mem fun d hd => by
    rcases List.mem_append.1 hd with hd | hd
    · exact h.mem hl hd
    · rw [List.mem_singleton.1 hd]; exact hc
  have := kept_len h1 h2
  rw [List.length_append, List.length_singleton] at this
  omega

/-! ### one clause put -/
theorem put_le {L Z : List Cl} {c : Cl} (h : Kept L Z) (hc : In1 Z c) : Kept (putS L c).1 Z := by
  unfold putS
  split
  · exact h
  split
  · rename_i old ho
    split
    · rename_i hs
      intro t x hx
      rw [getC_set] at hx
      split at hx
      · rename_i ht
        have hid : (mrgC old c).id = c.id := (getC_mem ho).2
        rw [ht, hid, ho] at hx
        simp only [Option.map_some, Option.some.injEq] at hx
        subst hx
        obtain ⟨d, h1, h2, h3, h4⟩ := h _ old ho
        obtain ⟨e, k1, k2, k3, k4⟩ := hc
        rw [h1] at k1
        injection k1 with k1
        subst k1
        refine ⟨d, by rw [ht, hid]; exact h1, h2, h3, fun hg => ?_⟩
        simp only [mrgC, Bool.or_eq_true] at hg
        exact hg.elim h4 k4
      · exact h t x hx
    · exact h
  · rename_i hn
    split
    · exact h
    split
    · exact h
    intro t x hx
    rw [getC_snoc hn] at hx
    split at hx
    · rename_i ht
      injection hx with hx
      subst hx
      rw [ht]
      exact hc
    · exact h t x hx
theorem putAll_le : ∀ {m L Z : List Cl}, Kept L Z → (∀ c ∈ m, In1 Z c) → Kept (putAll L m) Z
  | [], _, _, h, _ => h
  | c :: m, _, _, h, hm => putAll_le (m := m) (put_le h (hm c List.mem_cons_self)) fun d hd => hm d (List.mem_cons_of_mem _ hd)
/-- A clause that is proper, in Z, and whose After is there, is taken. -/
theorem put_in {L Z : List Cl} {c : Cl} (hl : Uq L) (h : Kept L Z) (hz : Z.length ≤ 64) (hc : In1 Z c) (hp : properC c = true) (ha : c.after = z2 ∨ ∃ d, getC L c.after = some d) : In1 (putS L c).1 c := by
  unfold putS
  rw [if_neg (by rw [hp]; decide)]
  cases ho : getC L c.id with
  | some old =>
    obtain ⟨d, h1, h2, h3, h4⟩ := h _ old ho
    obtain ⟨e, k1, k2, k3, k4⟩ := hc
    rw [h1] at k1
    injection k1 with k1
    subst k1
    have hid := (getC_mem ho).2
    have hs : sameC old c = true := sameC_iff.2 ⟨hid, h2.symm.trans k2, h3.symm.trans k3⟩
    simp only [hs, if_true]
    refine ⟨mrgC old c, ?_, h2.symm.trans k2, h3.symm.trans k3, fun hg => by simp [mrgC, hg]⟩
    rw [getC_set, if_pos (by show c.id = old.id; exact hid.symm), ho]
    rfl
  | none =>
    have hlt := kept_len_lt hl h ho hc
    have ho2 : openN L ≤ L.length := List.countP_le_length
    have n1 : ¬ (c.after ≠ z2 ∧ getC L c.after = none) := by
      rintro ⟨h1, h2⟩
      rcases ha with ha | ⟨d, ha⟩
      · exact h1 ha
      · rw [h2] at ha; cases ha
    have n2 : ¬ (c.gone = false ∧ 64 ≤ openN L) := fun ⟨_, h2⟩ => by omega
    simp only [if_neg n1, if_neg n2]
    exact ⟨c, by rw [getC_snoc ho, if_pos rfl], rfl, rfl, id⟩
theorem walk_after {M : List Cl} {A B : List Cl} {c : Cl} (h : Pg M) (hs : walkS M = A ++ c :: B) : c.after = z2 ∨ ∃ d ∈ A, d.id = c.after := by
  have hc : c ∈ walkS M := by rw [hs]; simp
  rcases walk_below hc with h1 | ⟨X, d, Y, h1, h2, h3⟩
  · exact .inl h1
  · exact .inr ⟨d, before (uq_nodup (walk_uq h.tr)) hs h1 h3, h2⟩
/-- What a seat sees, put on another page whole. -/
theorem put_walk {M Z : List Cl} (hM : Pg M) (hMZ : Kept M Z) (hz : Z.length ≤ 64) : ∀ (B A X : List Cl), walkS M = A ++ B → Pg X → Kept X Z → (∀ c ∈ A, In1 X c) → ∀ c ∈ walkS M, In1 (putAll X B) c
  | [], A, X, hs, _, _, hA => by
    rw [hs, List.append_nil]
    exact hA
  | c :: B, A, X, hs, hX, hXZ, hA => by
    have hcM : c ∈ M := (walk_perm hM.tr).mem_iff.1 (by rw [hs]; simp)
    have hcZ : In1 Z c := hMZ.mem hM.uq hcM
    have hin : In1 (putS X c).1 c := put_in hX.uq hXZ hz hcZ (hM.proper c hcM) (by
      rcases walk_after hM hs with h | ⟨d, hd, h⟩
      · exact .inl h
      · obtain ⟨e, h1, _⟩ := hA d hd
        exact .inr ⟨e, h ▸ h1⟩)
    refine put_walk hM hMZ hz B (A ++ [c]) (putS X c).1 (by rw [hs]; simp) (hX.put c) (put_le hXZ hcZ) fun d hd => ?_
    rcases List.mem_append.1 hd with hd | hd
    · exact (Kept.put c).in1 (hA d hd)
    · rw [List.mem_singleton.1 hd]; exact hin

/-! ### the invariant -/
structure Inv (Z : List Cl) (n : Nat) (C : Ch) : Prop where
  len : C.pages.length = n
  pg : ∀ i, i < n → Pg (C.pg i)
  le : ∀ i, i < n → Kept (C.pg i) Z
  msg : ∀ i k, i < n → k < n → i ≠ k → ∀ m ∈ C.lines i k, ∀ c ∈ m, In1 (C.pg i) c
  own : ∀ d ∈ Z, ∃ i : Nat, i < n ∧ d.id.1 = (i : Int) ∧ getC (C.pg i) d.id = some d
  uq : Uq Z
theorem Inv.new (n : Nat) : Inv [] n (newS n) where
  len := by simp [newS]
  pg := fun i hi => by
    have : (newS n).pg i = [] := by simp [newS, Ch.pg, List.getD_eq_getElem?_getD, hi]
    rw [this]
    exact Pg.nil
  le := fun i hi t c hc => by
    have : (newS n).pg i = [] := by simp [newS, Ch.pg, List.getD_eq_getElem?_getD, hi]
    rw [this] at hc
    cases hc
  msg := fun i k _ _ _ m hm => by cases hm
  own := fun d hd => by cases hd
  uq := List.Pairwise.nil
/-- Z holds a clause of seat i just as its page does. -/
theorem Inv.at_ {Z : List Cl} {n i : Nat} {C : Ch} (h : Inv Z n C) {d : Cl} (hd : d ∈ Z) (hi : d.id.1 = (i : Int)) : getC (C.pg i) d.id = some d := by
  obtain ⟨j, _, h2, h3⟩ := h.own d hd
  have : j = i := by omega
  exact this ▸ h3
theorem Inv.of_page {Z : List Cl} {n i : Nat} {C : Ch} (h : Inv Z n C) (hin : i < n) {c : Cl} {t : St2} (hc : getC (C.pg i) t = some c) (hi : t.1 = (i : Int)) : getC Z t = some c := by
  obtain ⟨d, h1, _⟩ := h.le i hin t c hc
  obtain ⟨h2, h3⟩ := getC_mem h1
  have := h.at_ h2 (by rw [h3]; exact hi)
  rw [h3, hc] at this
  injection this with this
  rw [h1, this]
/-- A page has turned into one that keeps it and holds no more than Z, the lines being as they were or having lost some. -/
theorem Inv.turn {Z : List Cl} {n b : Nat} {C D : Ch} (h : Inv Z n C) (hb : b < n) (hl : D.pages.length = n) (hp : ∀ k, k < n → k ≠ b → D.pg k = C.pg k) (h1 : Pg (D.pg b)) (h2 : Kept (C.pg b) (D.pg b)) (h3 : Kept (D.pg b) Z)
    (hm : ∀ i k m, i < n → k < n → i ≠ k → m ∈ D.lines i k → m ∈ C.lines i k ∨ ∀ c ∈ m, In1 (D.pg i) c) : Inv Z n D where
  len := hl
  pg := fun k hk => by
    by_cases e : k = b
    · rw [e]; exact h1
    · rw [hp k hk e]; exact h.pg k hk
  le := fun k hk => by
    by_cases e : k = b
    · rw [e]; exact h3
    · rw [hp k hk e]; exact h.le k hk
  msg := fun i k hi hk hik m hmm c hc => by
    rcases hm i k m hi hk hik hmm with h4 | h4
    · have h5 := h.msg i k hi hk hik m h4 c hc
      by_cases e : i = b
      · rw [e] at h5 ⊢; exact h2.in1 h5
      · rw [hp i hi e]; exact h5
    · exact h4 c hc
  own := fun d hd => by
    obtain ⟨i, hi, k1, k2⟩ := h.own d hd
    refine ⟨i, hi, k1, ?_⟩
    by_cases e : i = b
    · subst e
      obtain ⟨d1, e1, e2, e3, e4⟩ := h2 _ d k2
      obtain ⟨d2, f1, f2, f3, f4⟩ := h3 _ d1 e1
      rw [getC_of h.uq hd] at f1
      injection f1 with f1
      subst f1
      have : d1 = d := Cl.ext' ((getC_mem e1).2) e2 e3 (by
        cases hg : d1.gone with
        | true => exact (f4 hg).symm
        | false =>
          cases hc' : d.gone with
          | true => rw [e4 hc'] at hg; cases hg
          | false => rfl)
      rw [e1, this]
    · rw [hp i hi e]; exact k2
  uq := h.uq
theorem upd_lines (C : Ch) (i : Nat) (L : List Cl) (a b : Nat) : (C.upd i L).lines a b = C.lines a b := rfl
theorem Inv.deliver {Z : List Cl} {n a b : Nat} {C : Ch} (h : Inv Z n C) (ha : a < n) (hb : b < n) (lost : Bool) : Inv Z n (deliverS C a b lost).1 := by
  unfold deliverS
  split
  · exact h
  rename_i hab
  split
  · exact h
  · rename_i m q hq
    have hbl : b < C.pages.length := by rw [h.len]; exact hb
    have hmm : ∀ c ∈ m, In1 Z c := fun c hc => (h.le a ha).in1 (h.msg a b ha hb hab m (by rw [hq]; simp) c hc)
    have hlines : ∀ i k x, x ∈ (if i = a ∧ k = b then q else C.lines i k) → x ∈ C.lines i k := fun i k x hx => by
      split at hx
      · rename_i e
        rw [e.1, e.2, hq]
        exact List.mem_cons_of_mem _ hx
      · exact hx
    cases lost with
    | true => exact h.turn hb h.len (fun _ _ _ => rfl) (h.pg b hb) (Kept.refl _) (h.le b hb) fun i k x _ _ _ hx => .inl (hlines i k x hx)
    | false =>
      have e : ∀ k, (C.upd b (putAll (C.pg b) m)).pg k = if k = b then putAll (C.pg b) m else C.pg k := pg_upd hbl
      refine h.turn hb (by simpa [Ch.upd] using h.len) (fun k _ hk => ?_) ?_ ?_ ?_ fun i k x _ _ _ hx => .inl (hlines i k x hx)
      · show (C.upd b (putAll (C.pg b) m)).pg k = _
        rw [e, if_neg hk]
      · show Pg ((C.upd b (putAll (C.pg b) m)).pg b)
        rw [e, if_pos rfl]
        exact putAll_pg m (h.pg b hb)
      · show Kept _ ((C.upd b (putAll (C.pg b) m)).pg b)
        rw [e, if_pos rfl]
        exact Kept.all m _
      · show Kept ((C.upd b (putAll (C.pg b) m)).pg b) Z
        rw [e, if_pos rfl]
        exact putAll_le (h.le b hb) hmm
theorem Inv.again {Z : List Cl} {n a b : Nat} {C : Ch} (h : Inv Z n C) (ha : a < n) : Inv Z n (againS C a b).1 := by
  unfold againS
  split
  · exact h
  · refine h.turn ha h.len (fun _ _ _ => rfl) (h.pg a ha) (Kept.refl _) (h.le a ha) fun i k m _ _ _ hm => ?_
    simp only [Ch.send] at hm
    split at hm
    · rename_i e
      rcases List.mem_append.1 hm with hm | hm
      · exact .inl hm
      · right
        rw [List.mem_singleton.1 hm]
        intro c hc
        have hcM := (walk_perm (h.pg a ha).tr).mem_iff.1 hc
        show In1 (C.pg i) c
        rw [e.1]
        exact ⟨c, getC_of (h.pg a ha).uq hcM, rfl, rfl, id⟩
    · exact .inl hm
theorem tell_mem {C : Ch} {i : Nat} {x : Cl} {a b : Nat} {m : List Cl} (h : m ∈ (C.tell i x).lines a b) : m ∈ C.lines a b ∨ (a = i ∧ m = [x]) := by
  simp only [Ch.tell] at h
  split at h
  · rename_i e
    rcases List.mem_append.1 h with h | h
    · exact .inl h
    · exact .inr ⟨e.1, List.mem_singleton.1 h⟩
  · exact .inl h
theorem newC_fresh {Z : List Cl} {n i : Nat} {C : Ch} (h : Inv Z n C) (hi : i < n) (after : St2) (p : Pt) : getC (C.pg i) (newC i (C.pg i) after p).id = none ∧ getC Z (newC i (C.pg i) after p).id = none := by
  have h1 : getC (C.pg i) (newC i (C.pg i) after p).id = none := getC_none.2 fun c hc e => by
    have := cntS_lt ((walk_perm (h.pg i hi).tr).mem_iff.2 hc)
    rw [e] at this
    simp [newC] at this
  refine ⟨h1, getC_none.2 fun d hd e => ?_⟩
  have := h.at_ hd (i := i) (by rw [e]; rfl)
  rw [e, h1] at this
  cases this
theorem Inv.propose {Z : List Cl} {n i : Nat} {C : Ch} (h : Inv Z n C) (hi : i < n) (after : St2) (p : Pt) :
    ((proposeS C i after p).2.2 ≠ 0 → (proposeS C i after p).1 = C) ∧ ((proposeS C i after p).2.2 = 0 → (proposeS C i after p).2.1 = (newC i (C.pg i) after p).id ∧ Inv (Z ++ [newC i (C.pg i) after p]) n (proposeS C i after p).1 ∧
      getC ((proposeS C i after p).1.pg i) (newC i (C.pg i) after p).id = some (newC i (C.pg i) after p)) := by
  obtain ⟨f1, f2⟩ := newC_fresh h hi after p
  unfold proposeS
  split
  · exact ⟨fun _ => rfl, fun e => by cases e⟩
  split
  · exact ⟨fun _ => rfl, fun e => by cases e⟩
  split
  · rename_i h0
    exact ⟨fun _ => rfl, fun e => by dsimp only at e; exact absurd e h0⟩
  rename_i h0
  refine ⟨fun e => absurd rfl e, fun _ => ⟨rfl, ?_⟩⟩
  obtain ⟨g1, g2, g3⟩ := put_zero_new f1 (by simpa using h0)
  have hx : (newC i (C.pg i) after p).id.1 = (i : Int) := rfl
  generalize newC i (C.pg i) after p = x at *
  have hil : i < C.pages.length := by rw [h.len]; exact hi
  have e : ∀ k, ((C.upd i (putS (C.pg i) x).1).tell i x).pg k = if k = i then C.pg i ++ [x] else C.pg k := fun k => by
    rw [pg_tell, pg_upd hil, g1]
  refine ⟨?_, by rw [e, if_pos rfl, getC_snoc f1, if_pos rfl]⟩
  have hZ : Kept Z (Z ++ [x]) := fun t c hc => by
    have hne : t ≠ x.id := fun e => by rw [e, f2] at hc; cases hc
    exact ⟨c, by rw [getC_snoc f2, if_neg hne]; exact hc, rfl, rfl, id⟩
  exact {
    len := by simpa [Ch.upd, Ch.tell] using h.len
    pg := fun k hk => by
      rw [e]
      split
      · have := (h.pg i hi).put x
        rwa [g1] at this
      · exact h.pg k hk
    le := fun k hk => by
      rw [e]
      split
      · intro t c hc
        rw [getC_snoc f1] at hc
        split at hc
        · rename_i ht
          injection hc with hc
          subst hc
          exact ⟨x, by rw [getC_snoc f2, if_pos ht], rfl, rfl, id⟩
        · exact (h.le i hi).trans hZ t c hc
      · exact (h.le k hk).trans hZ
    msg := fun a b ha hb hab m hm c hc => by
      have hk : Kept (C.pg a) (((C.upd i (putS (C.pg i) x).1).tell i x).pg a) := by
        rw [e]
        split
        · rename_i ea
          rw [ea]
          have := Kept.put (L := C.pg i) x
          rwa [g1] at this
        · exact Kept.refl _
      rcases tell_mem hm with hm | ⟨ha', hm⟩
      · exact hk.in1 (h.msg a b ha hb hab m hm c hc)
      · rw [hm] at hc
        rw [List.mem_singleton.1 hc, e, if_pos ha']
        exact ⟨x, by rw [getC_snoc f1, if_pos rfl], rfl, rfl, id⟩
    own := fun d hd => by
      rcases List.mem_append.1 hd with hd | hd
      · obtain ⟨j, hj, k1, k2⟩ := h.own d hd
        refine ⟨j, hj, k1, ?_⟩
        rw [e]
        split
        · rename_i ej
          subst ej
          rw [getC_snoc f1, if_neg (fun e' => by rw [e', f1] at k2; cases k2)]
          exact k2
        · exact k2
      · rw [List.mem_singleton.1 hd]
        exact ⟨i, hi, hx, by rw [e, if_pos rfl, getC_snoc f1, if_pos rfl]⟩
    uq := uq_snoc h.uq f2 }
theorem Inv.withdraw {Z : List Cl} {n i : Nat} {C : Ch} (h : Inv Z n C) (hi : i < n) (t : St2) :
    ((withdrawS C i t).2 ≠ 0 → (withdrawS C i t).1 = C) ∧ ((withdrawS C i t).2 = 0 → t.1 = (i : Int) ∧ ∃ c, getC Z t = some c ∧ Inv (setC Z (goneC c)) n (withdrawS C i t).1) := by
  unfold withdrawS
  split
  · exact ⟨fun _ => rfl, fun e => by cases e⟩
  rename_i ht
  have ht : t.1 = (i : Int) := by simpa using ht
  split
  · exact ⟨fun _ => rfl, fun e => by cases e⟩
  rename_i c hc
  refine ⟨fun e => absurd rfl e, fun _ => ⟨ht, c, h.of_page hi hc ht, ?_⟩⟩
  have hcZ := h.of_page hi hc ht
  have hid : c.id = t := (getC_mem hc).2
  have hg : (goneC c).id = t := hid
  have hd : (dropS (C.pg i) t).1 = setC (C.pg i) (goneC c) := by
    unfold dropS
    rw [hc]
    rfl
  have hil : i < C.pages.length := by rw [h.len]; exact hi
  have e : ∀ k, ((C.upd i (dropS (C.pg i) t).1).tell i (goneC c)).pg k = if k = i then setC (C.pg i) (goneC c) else C.pg k := fun k => by
    rw [pg_tell, pg_upd hil, hd]
  have hZ : Kept Z (setC Z (goneC c)) := Kept.set (x := goneC c) (old := c) (by rw [hg]; exact hcZ) rfl rfl fun _ => rfl
  have hS : ∀ {L : List Cl}, getC L t = some c → getC (setC L (goneC c)) t = some (goneC c) := fun {L} hL => by
    rw [getC_set, if_pos hg.symm, hL]; rfl
  exact {
    len := by simpa [Ch.upd, Ch.tell] using h.len
    pg := fun k hk => by
      rw [e]
      split
      · have := (h.pg i hi).drop t
        rwa [hd] at this
      · exact h.pg k hk
    le := fun k hk => by
      rw [e]
      split
      · intro s x hx
        by_cases hs : s = t
        · rw [hs, hS hc] at hx
          injection hx with hx
          subst hx
          exact ⟨goneC c, by rw [hs, hS hcZ], rfl, rfl, id⟩
        · rw [getC_set, if_neg (by rw [hg]; exact hs)] at hx
          obtain ⟨d, k1, k2⟩ := h.le i hi s x hx
          exact ⟨d, by rw [getC_set, if_neg (by rw [hg]; exact hs)]; exact k1, k2⟩
      · exact (h.le k hk).trans hZ
    msg := fun a b ha hb hab m hm x hx => by
      have hk : Kept (C.pg a) (((C.upd i (dropS (C.pg i) t).1).tell i (goneC c)).pg a) := by
        rw [e]
        split
        · rename_i ea
          rw [ea]
          have := Kept.drop (L := C.pg i) t
          rwa [hd] at this
        · exact Kept.refl _
      rcases tell_mem hm with hm | ⟨ha', hm⟩
      · exact hk.in1 (h.msg a b ha hb hab m hm x hx)
      · rw [hm] at hx
        rw [List.mem_singleton.1 hx, e, if_pos ha']
        exact ⟨goneC c, by rw [hg]; exact hS hc, rfl, rfl, id⟩
    own := fun d hd => by
      by_cases hs : d.id = t
      · have h1 := getC_of (setC_uq h.uq (goneC c)) hd
        rw [hs, hS hcZ] at h1
        injection h1 with h1
        subst h1
        exact ⟨i, hi, by rw [hg]; exact ht, by rw [e, if_pos rfl, hg]; exact hS hc⟩
      · rcases mem_set hd with hd | ⟨rfl, _⟩
        · obtain ⟨j, hj, k1, k2⟩ := h.own d hd
          refine ⟨j, hj, k1, ?_⟩
          rw [e]
          split
          · rename_i ej
            subst ej
            rw [getC_set, if_neg (by rw [hg]; exact hs)]
            exact k2
          · exact k2
        · exact absurd hg hs
    uq := setC_uq h.uq _ }
end Go.Proofs.Ytaicbllfkehhjaa

/- All that there is has been sent and delivered, twice: every page is what was proposed. Plain words. -/
namespace Go.Proofs.Ytaicbllfkehhjaa

def drainS : Nat → Ch → Nat → Nat → Ch
  | 0, C, _, _ => C
  | f + 1, C, a, b => if (deliverS C a b false).2 = true then drainS f (deliverS C a b false).1 a b else C
def allP (n : Nat) : List (Nat × Nat) := (List.range n).flatMap fun a => (List.range n).map fun b => (a, b)
def againsS (n : Nat) (C : Ch) : Ch := (allP n).foldl (fun C p => (againS C p.1 p.2).1) C
def drainsS (n : Nat) (C : Ch) : Ch := (allP n).foldl (fun C p => drainS 200 C p.1 p.2) C
def roundS (n : Nat) (C : Ch) : Ch := drainsS n (againsS n C)
def finishS (n : Nat) (C : Ch) : Ch := roundS n (roundS n C)

theorem allP_mem {n : Nat} {p : Nat × Nat} : p ∈ allP n ↔ p.1 < n ∧ p.2 < n := by
  simp only [allP, List.mem_flatMap, List.mem_map, List.mem_range]
  constructor
  · rintro ⟨a, ha, b, hb, rfl⟩
    exact ⟨ha, hb⟩
  · rintro ⟨h1, h2⟩
    exact ⟨p.1, h1, p.2, h2, rfl⟩
theorem allP_nodup (n : Nat) : (allP n).Nodup := by
  unfold allP
  rw [List.flatMap_def]
  refine List.pairwise_flatten.2 ⟨fun l hl => ?_, ?_⟩
  · obtain ⟨a, _, rfl⟩ := List.mem_map.1 hl
    exact List.pairwise_map.2 (List.nodup_range.imp fun h e => h (Prod.ext_iff.1 e).2)
  · refine List.pairwise_map.2 (List.nodup_range.imp fun {x y} h => ?_)
    intro p h1 q h2 e
    obtain ⟨_, _, rfl⟩ := List.mem_map.1 h1
    obtain ⟨_, _, rfl⟩ := List.mem_map.1 h2
    exact h (Prod.ext_iff.1 e).1

theorem deliver_nil {C : Ch} {a b : Nat} (h : C.lines a b = []) : deliverS C a b false = (C, false) := by
  unfold deliverS
  split
  · rfl
  · rw [h]
theorem deliver_self (C : Ch) (a : Nat) : deliverS C a a false = (C, false) := by
  unfold deliverS
  rw [if_pos rfl]
theorem deliver_cons {C : Ch} {a b : Nat} {m : List Cl} {q : List (List Cl)} (hab : a ≠ b) (h : C.lines a b = m :: q) :
    (deliverS C a b false).2 = true ∧ (deliverS C a b false).1.lines a b = q ∧ (∀ i k, ¬ (i = a ∧ k = b) → (deliverS C a b false).1.lines i k = C.lines i k) ∧
      (b < C.pages.length → (deliverS C a b false).1.pg b = putAll (C.pg b) m) := by
  unfold deliverS
  rw [if_neg hab, h]
  refine ⟨rfl, ?_, fun i k hik => ?_, fun hb => ?_⟩
  · show (if a = a ∧ b = b then q else _) = q
    rw [if_pos ⟨rfl, rfl⟩]
  · show (if i = a ∧ k = b then q else _) = _
    rw [if_neg hik]
  · show (C.upd b (putAll (C.pg b) m)).pg b = _
    rw [pg_upd hb, if_pos rfl]

theorem drain_spec {Z : List Cl} {n a b : Nat} (ha : a < n) (hb : b < n) (hab : a ≠ b) (hz : Z.length ≤ 64) : ∀ (f : Nat) (C : Ch), Inv Z n C → (C.lines a b).length ≤ f →
    Inv Z n (drainS f C a b) ∧ (∀ k, Kept (C.pg k) ((drainS f C a b).pg k)) ∧ (∀ i k, ¬ (i = a ∧ k = b) → (drainS f C a b).lines i k = C.lines i k) ∧ (drainS f C a b).lines a b = [] ∧
      ∀ pre M, C.lines a b = pre ++ [walkS M] → Pg M → Kept M Z → Kept M ((drainS f C a b).pg b)
  | 0, C, h, hl => by
    have h0 : C.lines a b = [] := List.eq_nil_of_length_eq_zero (by omega)
    refine ⟨h, fun _ => Kept.refl _, fun _ _ _ => rfl, h0, fun pre M e => ?_⟩
    rw [h0] at e
    simp at e
  | f + 1, C, h, hl => by
    cases hq : C.lines a b with
    | nil =>
      have e : drainS (f + 1) C a b = C := by
        unfold drainS
        rw [deliver_nil hq]
        rfl
      rw [e]
      refine ⟨h, fun _ => Kept.refl _, fun _ _ _ => rfl, hq, fun pre M e => ?_⟩
      simp at e
    | cons m q =>
      obtain ⟨d1, d2, d3, d4⟩ := deliver_cons hab hq
      have e : drainS (f + 1) C a b = drainS f (deliverS C a b false).1 a b := by
        conv => lhs; unfold drainS
        rw [if_pos d1]
      rw [e]
      have hk := fun k => deliver_kept (C := C) (a := a) (b := b) (by rw [h.len]; exact hb) false k
      have hD := h.deliver ha hb false
      have d5 := d4 (by rw [h.len]; exact hb)
      generalize (deliverS C a b false).1 = D at *
      rw [hq, List.length_cons] at hl
      obtain ⟨i1, i2, i3, i4, i5⟩ := drain_spec ha hb hab hz f D hD (by rw [d2]; omega)
      refine ⟨i1, fun k => (hk k).trans (i2 k), fun i k hik => (i3 i k hik).trans (d3 i k hik), i4, fun pre M hs hM hMZ => ?_⟩
      cases pre with
      | nil =>
        simp only [List.nil_append, List.cons.injEq] at hs
        have : Kept M (D.pg b) := Kept.of_mem fun c hc => by
          rw [d5, hs.1]
          exact put_walk hM hMZ hz (walkS M) [] (C.pg b) rfl (h.pg b hb) (h.le b hb) (fun _ hc => by cases hc) c ((walk_perm hM.tr).mem_iff.2 hc)
        exact this.trans (i2 b)
      | cons x pre =>
        simp only [List.cons_append, List.cons.injEq] at hs
        exact i5 pre M (d2.trans hs.2) hM hMZ
theorem drain_self (f : Nat) (C : Ch) (a : Nat) : drainS f C a a = C := by
  cases f with
  | zero => rfl
  | succ f => unfold drainS; rw [deliver_self]; rfl

theorem drains_spec {Z : List Cl} {n : Nat} {Ms : Nat → List Cl} (hz : Z.length ≤ 64) (hM : ∀ i, i < n → Pg (Ms i) ∧ Kept (Ms i) Z) : ∀ (ps : List (Nat × Nat)) (C : Ch), ps.Nodup → (∀ p ∈ ps, p.1 < n ∧ p.2 < n) → Inv Z n C →
    (∀ p ∈ ps, p.1 ≠ p.2 → (C.lines p.1 p.2).length ≤ 200 ∧ ∃ pre, C.lines p.1 p.2 = pre ++ [walkS (Ms p.1)]) →
    Inv Z n (ps.foldl (fun C p => drainS 200 C p.1 p.2) C) ∧ (∀ k, Kept (C.pg k) ((ps.foldl (fun C p => drainS 200 C p.1 p.2) C).pg k)) ∧
      (∀ i k, ((ps.foldl (fun C p => drainS 200 C p.1 p.2) C).lines i k).length ≤ (C.lines i k).length) ∧
      (∀ p ∈ ps, p.1 ≠ p.2 → Kept (Ms p.1) ((ps.foldl (fun C p => drainS 200 C p.1 p.2) C).pg p.2)) ∧ ∀ p ∈ ps, p.1 ≠ p.2 → (ps.foldl (fun C p => drainS 200 C p.1 p.2) C).lines p.1 p.2 = []
  | [], C, _, _, h, _ => ⟨h, fun _ => Kept.refl _, fun _ _ => Nat.le_refl _, fun _ hp => (List.not_mem_nil hp).elim, fun _ hp => (List.not_mem_nil hp).elim⟩
  | p :: ps, C, hn, hv, h, hl => by
    rw [List.foldl_cons]
    have hn' := List.nodup_cons.1 hn
    have hv' : ∀ q ∈ ps, q.1 < n ∧ q.2 < n := fun q hq => hv q (List.mem_cons_of_mem _ hq)
    by_cases hp : p.1 = p.2
    · have e : drainS 200 C p.1 p.2 = C := by rw [← hp]; exact drain_self 200 C p.1
      rw [e]
      obtain ⟨i1, i2, i3, i4, i5⟩ := drains_spec hz hM ps C hn'.2 hv' h fun q hq => hl q (List.mem_cons_of_mem _ hq)
      refine ⟨i1, i2, i3, fun q hq hne => ?_, fun q hq hne => ?_⟩
      · rcases List.mem_cons.1 hq with rfl | hq
        · exact absurd hp hne
        · exact i4 q hq hne
      · rcases List.mem_cons.1 hq with rfl | hq
        · exact absurd hp hne
        · exact i5 q hq hne
    · obtain ⟨l1, pre, l2⟩ := hl p List.mem_cons_self hp
      obtain ⟨hp1, hp2⟩ := hv p List.mem_cons_self
      obtain ⟨d1, d2, d3, d4, d5⟩ := drain_spec hp1 hp2 hp hz 200 C h l1
      have d6 := d5 pre (Ms p.1) l2 (hM p.1 hp1).1 (hM p.1 hp1).2
      generalize drainS 200 C p.1 p.2 = D at *
      have other : ∀ q ∈ ps, ¬ (q.1 = p.1 ∧ q.2 = p.2) := fun q hq e => hn'.1 (by rw [show p = q from Prod.ext e.1.symm e.2.symm]; exact hq)
      obtain ⟨i1, i2, i3, i4, i5⟩ := drains_spec hz hM ps D hn'.2 hv' d1 fun q hq hne => by
        rw [d3 q.1 q.2 (other q hq)]
        exact hl q (List.mem_cons_of_mem _ hq) hne
      refine ⟨i1, fun k => (d2 k).trans (i2 k), fun i k => Nat.le_trans (i3 i k) ?_, fun q hq hne => ?_, fun q hq hne => ?_⟩
      · by_cases e : i = p.1 ∧ k = p.2
        · rw [e.1, e.2, d4]
          exact Nat.zero_le _
        · rw [d3 i k e]
          exact Nat.le_refl _
      · rcases List.mem_cons.1 hq with rfl | hq
        · exact d6.trans (i2 _)
        · exact i4 q hq hne
      · rcases List.mem_cons.1 hq with rfl | hq
        · have := i3 q.1 q.2
          rw [d4] at this
          exact List.eq_nil_of_length_eq_zero (Nat.le_zero.1 this)
        · exact i5 q hq hne

theorem again_pg (C : Ch) (a b k : Nat) : (againS C a b).1.pg k = C.pg k := by
  unfold againS
  split <;> rfl
theorem again_lines {C : Ch} {a b : Nat} (hab : a ≠ b) (i k : Nat) : (againS C a b).1.lines i k = if i = a ∧ k = b then C.lines a b ++ [walkS (C.pg a)] else C.lines i k := by
  unfold againS
  rw [if_neg hab]
  show (if i = a ∧ k = b then C.lines i k ++ [walkS (C.pg a)] else C.lines i k) = _
  split
  · rename_i e
    rw [e.1, e.2]
  · rfl
theorem again_self (C : Ch) (a : Nat) : (againS C a a).1 = C := by
  unfold againS
  rw [if_pos rfl]
theorem agains_spec {Z : List Cl} {n : Nat} : ∀ (ps : List (Nat × Nat)) (C : Ch), ps.Nodup → (∀ p ∈ ps, p.1 < n) → Inv Z n C →
    Inv Z n (ps.foldl (fun C p => (againS C p.1 p.2).1) C) ∧ (∀ k, (ps.foldl (fun C p => (againS C p.1 p.2).1) C).pg k = C.pg k) ∧
      ∀ i k, (ps.foldl (fun C p => (againS C p.1 p.2).1) C).lines i k = if (i, k) ∈ ps ∧ i ≠ k then C.lines i k ++ [walkS (C.pg i)] else C.lines i k
  | [], C, _, _, h => ⟨h, fun _ => rfl, fun i k => by rw [if_neg (by simp)]; rfl⟩
  | p :: ps, C, hn, hv, h => by
    rw [List.foldl_cons]
    have hn' := List.nodup_cons.1 hn
    obtain ⟨i1, i2, i3⟩ := agains_spec ps (againS C p.1 p.2).1 hn'.2 (fun q hq => hv q (List.mem_cons_of_mem _ hq)) (h.again (hv p List.mem_cons_self))
    refine ⟨i1, fun k => (i2 k).trans (again_pg C _ _ k), fun i k => ?_⟩
    rw [i3 i k, again_pg]
    by_cases hp : p.1 = p.2
    · have e1 : (againS C p.1 p.2).1 = C := by rw [← hp]; exact again_self C p.1
      rw [e1]
      by_cases hik : i = k
      · rw [if_neg (fun h => h.2 hik), if_neg (fun h => h.2 hik)]
      · have : (i, k) ∈ p :: ps ↔ (i, k) ∈ ps := by
          rw [List.mem_cons]
          refine ⟨fun h => h.elim (fun e => absurd (by rw [← e] at hp; exact hp) hik) id, .inr⟩
        simp only [this]
    · rw [again_lines hp]
      by_cases e : i = p.1 ∧ k = p.2
      · have hpe : (i, k) = p := Prod.ext e.1 e.2
        have h1 : ¬ ((i, k) ∈ ps ∧ i ≠ k) := fun h => hn'.1 (hpe ▸ h.1)
        have h2 : (i, k) ∈ p :: ps ∧ i ≠ k := ⟨by rw [hpe]; exact List.mem_cons_self, by rw [e.1, e.2]; exact hp⟩
        rw [if_neg h1, if_pos h2, if_pos e, e.1, e.2]
      · have hpe : (i, k) ≠ p := fun h => e ⟨congrArg Prod.fst h, congrArg Prod.snd h⟩
        simp only [if_neg e, List.mem_cons, hpe, false_or]

theorem round_spec {Z : List Cl} {n K : Nat} {C : Ch} (hz : Z.length ≤ 64) (h : Inv Z n C) (hK : ∀ i k, (C.lines i k).length ≤ K) (hK2 : K ≤ 199) :
    Inv Z n (roundS n C) ∧ (∀ k, Kept (C.pg k) ((roundS n C).pg k)) ∧ (∀ i k, ((roundS n C).lines i k).length ≤ K + 1) ∧ (∀ b, b < n → Kept Z ((roundS n C).pg b)) ∧ ∀ i k, i < n → k < n → i ≠ k → (roundS n C).lines i k = [] := by
  obtain ⟨a1, a2, a3⟩ := agains_spec (allP n) C (allP_nodup n) (fun p hp => (allP_mem.1 hp).1) h
  have hlen : ∀ i k, ((againsS n C).lines i k).length ≤ K + 1 := fun i k => by
    have h1 := hK i k
    unfold againsS
    rw [a3]
    split
    · rw [List.length_append]; simpa using h1
    · omega
  obtain ⟨d1, d2, d3, d4, d5⟩ := drains_spec (Ms := C.pg) hz (fun i hi => ⟨h.pg i hi, h.le i hi⟩) (allP n) (againsS n C) (allP_nodup n) (fun p hp => allP_mem.1 hp) a1 fun p hp hne => by
    refine ⟨Nat.le_trans (hlen _ _) (by omega), C.lines p.1 p.2, ?_⟩
    unfold againsS
    rw [a3, if_pos ⟨hp, hne⟩]
  refine ⟨d1, fun k => ?_, fun i k => Nat.le_trans (d3 i k) (hlen i k), fun b hb => Kept.of_mem fun c hc => ?_, fun i k hi hk hne => d5 (i, k) (allP_mem.2 ⟨hi, hk⟩) hne⟩
  · have := d2 k
    unfold againsS at this
    rw [a2 k] at this
    exact this
  · obtain ⟨i, hi, k1, k2⟩ := h.own c hc
    have hin : In1 (C.pg i) c := ⟨c, k2, rfl, rfl, id⟩
    by_cases hib : i = b
    · subst hib
      have := d2 i
      unfold againsS at this
      rw [a2 i] at this
      exact this.in1 hin
    · exact (d4 (i, b) (allP_mem.2 ⟨hi, hb⟩) hib).in1 hin
theorem finish_spec {Z : List Cl} {n K : Nat} {C : Ch} (hz : Z.length ≤ 64) (h : Inv Z n C) (hK : ∀ i k, (C.lines i k).length ≤ K) (hK2 : K ≤ 198) :
    Inv Z n (finishS n C) ∧ (∀ b, b < n → ((finishS n C).pg b).Perm Z) ∧ ∀ i k, i < n → k < n → i ≠ k → (finishS n C).lines i k = [] := by
  obtain ⟨a1, a2, a3, a4, _⟩ := round_spec hz h hK (by omega)
  obtain ⟨b1, b2, b3, b4, b5⟩ := round_spec hz a1 a3 (by omega)
  exact ⟨b1, fun b hb => kept_both (b1.pg b hb).uq b1.uq (b1.le b hb) (b4 b hb), b5⟩
theorem finish_walk {Z : List Cl} {n b : Nat} {D : Ch} (h : Inv Z n D) (hp : (D.pg b).Perm Z) : walkS (D.pg b) = walkS Z := (walkS_perm h.uq hp.symm).symm
end Go.Proofs.Ytaicbllfkehhjaa

/- A chamber that the laws make, in plain words: what finish wants. -/
namespace Go.Proofs.Ytaicbllfkehhjaa

/-- What the laws know of a chamber: the invariant, and that messages are not great. -/
structure Gd (Z : List Cl) (n : Nat) (C : Ch) : Prop where
  inv : Inv Z n C
  few : Z.length ≤ 64
  small : ∀ i k m, m ∈ C.lines i k → m.length ≤ 100000
def LB (K : Nat) (C : Ch) : Prop := ∀ i k, (C.lines i k).length ≤ K
theorem LB.mono {K K' : Nat} {C : Ch} (h : LB K C) (hk : K ≤ K') : LB K' C := fun i k => Nat.le_trans (h i k) hk
theorem Gd.pages {Z : List Cl} {n : Nat} {C : Ch} (h : Gd Z n C) {i : Nat} (hi : i < n) : Pg (C.pg i) ∧ (C.pg i).length ≤ 64 :=
  ⟨h.inv.pg i hi, Nat.le_trans (kept_len (h.inv.pg i hi).uq (h.inv.le i hi)) h.few⟩
theorem again_mem {C : Ch} {a b i k : Nat} {m : List Cl} (h : m ∈ (againS C a b).1.lines i k) : m ∈ C.lines i k ∨ m = walkS (C.pg a) := by
  by_cases hab : a = b
  · subst hab
    rw [again_self] at h
    exact .inl h
  · rw [again_lines hab] at h
    split at h
    · rename_i e
      obtain ⟨rfl, rfl⟩ := e
      rcases List.mem_append.1 h with h | h
      · exact .inl h
      · exact .inr (by simpa using h)
    · exact .inl h
theorem Gd.again {Z : List Cl} {n a b : Nat} {C : Ch} (h : Gd Z n C) (ha : a < n) : Gd Z n (againS C a b).1 where
  inv := h.inv.again ha
  few := h.few
  small := fun i k m hm => by
    rcases again_mem hm with hm | rfl
    · exact h.small i k m hm
    · rw [(walk_perm (h.inv.pg a ha).tr).length_eq]
      have := (h.pages ha).2
      omega
theorem LB.again {K a b : Nat} {C : Ch} (h : LB K C) : LB (K + 1) (againS C a b).1 := fun i k => by
  have h1 := h i k
  by_cases hab : a = b
  · subst hab
    rw [again_self]
    omega
  · rw [again_lines hab]
    split
    · rename_i e
      obtain ⟨rfl, rfl⟩ := e
      simp
      omega
    · omega
theorem deliver_lines (C : Ch) (a b : Nat) (l : Bool) (i k : Nat) : (deliverS C a b l).1.lines i k = C.lines i k ∨ ∃ m, C.lines i k = m :: (deliverS C a b l).1.lines i k := by
  unfold deliverS
  split
  · exact .inl rfl
  · split
    · exact .inl rfl
    · rename_i m q hq
      by_cases e : i = a ∧ k = b
      · obtain ⟨rfl, rfl⟩ := e
        refine .inr ⟨m, ?_⟩
        rw [hq]
        cases l <;> simp
      · refine .inl ?_
        cases l <;> simp [e]
theorem Gd.deliver {Z : List Cl} {n a b : Nat} {C : Ch} (h : Gd Z n C) (ha : a < n) (hb : b < n) (l : Bool) : Gd Z n (deliverS C a b l).1 where
  inv := h.inv.deliver ha hb l
  few := h.few
  small := fun i k m hm => by
    rcases deliver_lines C a b l i k with e | ⟨x, e⟩
    · exact h.small i k m (e ▸ hm)
    · exact h.small i k m (by rw [e]; exact List.mem_cons_of_mem _ hm)
theorem LB.deliver {K a b : Nat} {C : Ch} (h : LB K C) (l : Bool) : LB K (deliverS C a b l).1 := fun i k => by
  have h1 := h i k
  rcases deliver_lines C a b l i k with e | ⟨x, e⟩
  · rw [e]
    exact h1
  · rw [e, List.length_cons] at h1
    omega
theorem deliver_false {C : Ch} {a b : Nat} {l : Bool} (h : (deliverS C a b l).2 = false) : (deliverS C a b l).1 = C := by
  unfold deliverS at h ⊢
  split
  · rfl
  · rename_i hab
    rw [if_neg hab] at h
    split
    · rfl
    · rename_i m q hq
      rw [hq] at h
      cases h
def foldA (ps : List (Nat × Nat)) (C : Ch) : Ch := ps.foldl (fun C p => (againS C p.1 p.2).1) C
def foldD (ps : List (Nat × Nat)) (C : Ch) : Ch := ps.foldl (fun C p => drainS 200 C p.1 p.2) C
theorem foldA_gd {Z : List Cl} {n : Nat} : ∀ (ps : List (Nat × Nat)) (C : Ch) (K : Nat), (∀ p ∈ ps, p.1 < n) → Gd Z n C → LB K C → Gd Z n (foldA ps C) ∧ LB (K + ps.length) (foldA ps C)
  | [], _, _, _, h, k => ⟨h, k⟩
  | p :: ps, C, K, hp, h, k => by
    obtain ⟨h1, h2⟩ := foldA_gd ps (againS C p.1 p.2).1 (K + 1) (fun x hx => hp x (List.mem_cons_of_mem _ hx)) (h.again (hp p List.mem_cons_self)) k.again
    exact ⟨h1, h2.mono (by rw [List.length_cons]; omega)⟩
theorem drainS_gd {Z : List Cl} {n K a b : Nat} (ha : a < n) (hb : b < n) : ∀ (f : Nat) (C : Ch), Gd Z n C → LB K C → Gd Z n (drainS f C a b) ∧ LB K (drainS f C a b)
  | 0, _, h, k => ⟨h, k⟩
  | f + 1, C, h, k => by
    unfold drainS
    split
    · exact drainS_gd ha hb f _ (h.deliver ha hb false) (k.deliver false)
    · exact ⟨h, k⟩
theorem foldD_gd {Z : List Cl} {n K : Nat} : ∀ (ps : List (Nat × Nat)) (C : Ch), (∀ p ∈ ps, p.1 < n ∧ p.2 < n) → Gd Z n C → LB K C → Gd Z n (foldD ps C) ∧ LB K (foldD ps C)
  | [], _, _, h, k => ⟨h, k⟩
  | p :: ps, C, hp, h, k => by
    obtain ⟨h1, h2⟩ := drainS_gd (hp p List.mem_cons_self).1 (hp p List.mem_cons_self).2 200 C h k
    exact foldD_gd ps _ (fun x hx => hp x (List.mem_cons_of_mem _ hx)) h1 h2
theorem sum_const (n : Nat) : ∀ l : List Nat, (l.map fun _ => n).sum = l.length * n
  | [] => by simp
  | x :: l => by
    rw [List.map_cons, List.sum_cons, sum_const n l, List.length_cons, Nat.succ_mul]
    omega
theorem allP_len (n : Nat) : (allP n).length = n * n := by
  unfold allP
  rw [List.length_flatMap]
  simp only [List.length_map, List.length_range]
  rw [sum_const, List.length_range]
theorem pairs_at {n : Nat} : ∀ {l : List Nat} {i b a : Nat}, l[i]? = some a → b < n → (l.flatMap fun a => (List.range n).map fun b => (a, b))[i * n + b]? = some (a, b)
  | [], i, b, a, h, _ => by simp at h
  | x :: l, 0, b, a, h, hb => by
    simp at h
    subst h
    rw [List.flatMap_cons, Nat.zero_mul, Nat.zero_add, List.getElem?_append_left (by simpa using hb)]
    simp [hb]
  | x :: l, i + 1, b, a, h, hb => by
    have ih := pairs_at (l := l) (i := i) (b := b) (by simpa using h) hb
    have e : (i + 1) * n + b = n + (i * n + b) := by rw [Nat.succ_mul]; omega
    rw [List.flatMap_cons, e, List.getElem?_append_right (by simp)]
    simpa using ih
theorem allP_at {n a b : Nat} (ha : a < n) (hb : b < n) : (allP n)[a * n + b]? = some (a, b) := pairs_at (by rw [List.getElem?_range ha]) hb
theorem take_in {n j : Nat} {p : Nat × Nat} (h : p ∈ (allP n).take j) : p.1 < n ∧ p.2 < n := allP_mem.1 (List.mem_of_mem_take h)
theorem foldA_step {n a b : Nat} (ha : a < n) (hb : b < n) (C : Ch) : foldA ((allP n).take (a * n + (b + 1))) C = (againS (foldA ((allP n).take (a * n + b)) C) a b).1 := by
  unfold foldA
  rw [← Nat.add_assoc, List.take_add_one, allP_at ha hb]
  simp [List.foldl_append]
theorem foldD_step {n a b : Nat} (ha : a < n) (hb : b < n) (C : Ch) : foldD ((allP n).take (a * n + (b + 1))) C = drainS 200 (foldD ((allP n).take (a * n + b)) C) a b := by
  unfold foldD
  rw [← Nat.add_assoc, List.take_add_one, allP_at ha hb]
  simp [List.foldl_append]
def rndS (n : Nat) : Nat → Ch → Ch
  | 0, C => C
  | r + 1, C => roundS n (rndS n r C)
theorem round_fold (n : Nat) (C : Ch) : roundS n C = foldD ((allP n).take (n * n)) (foldA ((allP n).take (n * n)) C) := by
  rw [List.take_of_length_le (by rw [allP_len]; exact Nat.le_refl _)]
  rfl
theorem rnd_gd {Z : List Cl} {n : Nat} (hn : n ≤ 5) : ∀ (r : Nat) (C : Ch) (K : Nat), Gd Z n C → LB K C → Gd Z n (rndS n r C) ∧ LB (K + r * 25) (rndS n r C)
  | 0, _, _, h, k => ⟨h, by rw [Nat.zero_mul]; exact k⟩
  | r + 1, C, K, h, k => by
    obtain ⟨h1, h2⟩ := rnd_gd hn r C K h k
    have hnn : n * n ≤ 25 := Nat.mul_le_mul hn hn
    obtain ⟨h3, h4⟩ := foldA_gd ((allP n).take (n * n)) _ _ (fun p hp => (take_in hp).1) h1 h2
    obtain ⟨h5, h6⟩ := foldD_gd ((allP n).take (n * n)) _ (fun p hp => take_in hp) h3 h4
    show Gd Z n (roundS n _) ∧ _
    rw [show rndS n (r + 1) C = roundS n (rndS n r C) from rfl, round_fold]
    refine ⟨h5, h6.mono ?_⟩
    rw [List.length_take, Nat.succ_mul]
    omega
theorem finish_rnd (n : Nat) (C : Ch) : finishS n C = rndS n 2 C := rfl
theorem Gd.new (n : Nat) : Gd [] n (newS n) := ⟨Inv.new n, by simp, fun i k m hm => by cases hm⟩
theorem LB.new (n : Nat) : LB 0 (newS n) := fun _ _ => Nat.le_refl _
end Go.Proofs.Ytaicbllfkehhjaa

/- finish. -/
namespace Go.Proofs.Ytaicbllfkehhjaa
open Go.RowKit

theorem Gd.fit {Z : List Cl} {n K : Nat} {C : Ch} (h : Gd Z n C) (k : LB K C) (hK : K ≤ 900000) : Fit n C :=
  ⟨fun i hi => ⟨(h.pages hi).1, Nat.le_trans (h.pages hi).2 (by decide)⟩, fun i j => Nat.le_trans (k i j) hK, h.small⟩
theorem againI_nat {n a b : Nat} (ha : a < n) (hb : b < n) (C : Ch) : againI n C (a : Int) (b : Int) = againS C a b := by
  unfold againI
  rw [if_pos (by omega), Int.toNat_natCast, Int.toNat_natCast]
theorem deliverI_nat {n a b : Nat} (ha : a < n) (hb : b < n) (C : Ch) (l : Bool) : deliverI n C (a : Int) (b : Int) l = deliverS C a b l := by
  unfold deliverI
  rw [if_pos (by omega), Int.toNat_natCast, Int.toNat_natCast]

set_option maxRecDepth 100000 in
set_option maxHeartbeats 8000000 in
theorem finish_any (w : World) (y : Lay) (V : Nat → Nat → Value) (n : Nat) (hn5 : n ≤ 5) (C : Ch) (Z : List Cl) (h : ChAt w y V n C) (hg : Gd Z n C) (hk : LB 800000 C) :
    Calls Try.prog 25 #[.pointer (some ⟨y.p, 0, none⟩), .int .i64 (n : Int)] w fun e w' => (∃ r, e = .returned r) ∧ ∃ V', ChAt w' y V' n (finishS n C) ∧ Turn w w' y V V' n := by
  have HRG := Lib.hid (fun r => rnd_gd hn5 r C 800000 hg hk)
  have HN5 := Lib.hid hn5
  have H := Lib.hid h
  have hnn : n * n ≤ 25 := Nat.mul_le_mul hn5 hn5
  have HNN := Lib.hid hnn
  have hn5i : (n : Int) ≤ 5 := by omega
  clear h hg hk hn5 hnn
  go_enter Try.func25, Try.ntmps25
  go_wp2_with fail
  go_loopw [4] (fun v wr => ∃ r : Nat, r ≤ 2 ∧ v = .int .i64 (r : Int) ∧ ∃ V', Hid (ChAt wr y V' n (rndS n r C)) ∧ Hid (Turn w wr y V V' n)) (fun v _ => 2 - (intOf v).toNat)
  case atStart => exact ⟨0, by omega, rfl, V, H, Lib.hid (Turn.refl _ _ _ _)⟩
  case round =>
    obtain ⟨r, hr, rfl, V1, H1, T1⟩ := hrel
    by_cases hr2 : r < 2
    · obtain ⟨G1, L1⟩ := HRG.out r
      obtain ⟨Cr, hCr⟩ : ∃ D, rndS n r C = D := ⟨_, rfl⟩
      rw [hCr] at H1 G1 L1
      have HCR := Lib.hid hCr
      have HG1 := Lib.hid G1
      have HL1 := Lib.hid (L1.mono (show 800000 + r * 25 ≤ 800100 by omega))
      have hr0 : (0 : Int) ≤ (r : Int) := by omega
      have hr1 : (r : Int) < 2 := by omega
      clear G1 L1 hCr H
      go_wp2_with fail
      obtain ⟨wo, rfl⟩ : ∃ x, x = wr := ⟨wr, rfl⟩
      go_loopw [5] (fun v wq => ∃ a : Nat, a ≤ n ∧ v = .int .i64 (a : Int) ∧ ∃ V', Hid (ChAt wq y V' n (foldA ((allP n).take (a * n)) Cr)) ∧ Hid (Turn w wq y V V' n)) (fun v _ => n - (intOf v).toNat)
      case atStart => exact ⟨0, Nat.zero_le _, rfl, V1, Lib.hid (by rw [Nat.zero_mul]; exact H1.out), T1⟩
      case round =>
        obtain ⟨a, ha, rfl, V2, H2, T2⟩ := hrel
        clear H1 T1
        by_cases han : a < n
        · have ha1 : (a : Int) < (n : Int) := by omega
          go_wp2_with fail
          obtain ⟨wo2, rfl⟩ : ∃ x, x = wr := ⟨wr, rfl⟩
          go_loopw [6] (fun v wq => ∃ b : Nat, b ≤ n ∧ v = .int .i64 (b : Int) ∧ ∃ V', Hid (ChAt wq y V' n (foldA ((allP n).take (a * n + b)) Cr)) ∧ Hid (Turn w wq y V V' n)) (fun v _ => n - (intOf v).toNat)
          case atStart => exact ⟨0, Nat.zero_le _, rfl, V2, H2, T2⟩
          case round =>
            obtain ⟨b, hb, rfl, V3, H3, T3⟩ := hrel
            clear H2 T2
            by_cases hbn : b < n
            · have hb1 : (b : Int) < (n : Int) := by omega
              obtain ⟨g3, l3⟩ := foldA_gd ((allP n).take (a * n + b)) _ _ (fun p hp => (take_in hp).1) HG1.out HL1.out
              have hlen : ((allP n).take (a * n + b)).length ≤ 25 := by
                rw [List.length_take, allP_len]
                have := HNN.out
                omega
              have hA := again_any wr y V3 n _ H3.out (g3.fit l3 (by omega)).sane (fun i k => Nat.le_trans (l3 i k) (by omega)) (a : Int) (b : Int)
              rw [againI_nat han hbn, ← foldA_step han hbn] at hA
              have HA := Lib.hid hA
              clear hA g3 l3 hlen
              go_wp2_with (go_at_call 27; refine HA.out.mono ?_; rintro e w5 ⟨rfl, V4, h5, t5⟩)
              exact ⟨⟨b + 1, by omega, by go_num, V4, Lib.hid h5, Lib.hid (T3.out.trans t5)⟩, by simp [intOf]; omega⟩
            · obtain rfl : b = n := by omega
              go_wp2_with fail
              exact ⟨⟨a + 1, by omega, by go_num, V3, Lib.hid (by rw [Nat.succ_mul]; exact H3.out), T3⟩, by simp [intOf]; omega⟩
        · obtain rfl : a = n := by omega
          obtain ⟨GA, LA⟩ := foldA_gd ((allP a).take (a * a)) _ _ (fun p hp => (take_in hp).1) HG1.out HL1.out
          have hlen : ((allP a).take (a * a)).length ≤ 25 := by
            rw [List.length_take, allP_len]
            have := HNN.out
            omega
          have HGA := Lib.hid GA
          have HLA := Lib.hid (LA.mono (show _ ≤ 800200 by omega))
          obtain ⟨D0, hD0⟩ : ∃ D, foldA ((allP a).take (a * a)) Cr = D := ⟨_, rfl⟩
          rw [hD0] at H2 HGA HLA
          have HD0 := Lib.hid hD0
          clear GA LA hlen hD0 HG1 HL1
          go_wp2_with fail
          obtain ⟨wo3, rfl⟩ : ∃ x, x = wr := ⟨wr, rfl⟩
          go_loopw [7] (fun v wq => ∃ c : Nat, c ≤ a ∧ v = .int .i64 (c : Int) ∧ ∃ V', Hid (ChAt wq y V' a (foldD ((allP a).take (c * a)) D0)) ∧ Hid (Turn w wq y V V' a)) (fun v _ => a - (intOf v).toNat)
          case atStart => exact ⟨0, Nat.zero_le _, rfl, V2, Lib.hid (by rw [Nat.zero_mul]; exact H2.out), T2⟩
          case round =>
            obtain ⟨c, hc, rfl, V3, H3, T3⟩ := hrel
            clear H2 T2
            by_cases hcn : c < a
            · have hc1 : (c : Int) < (a : Int) := by omega
              go_wp2_with fail
              obtain ⟨wo4, rfl⟩ : ∃ x, x = wr := ⟨wr, rfl⟩
              go_loopw [8] (fun v wq => ∃ b : Nat, b ≤ a ∧ v = .int .i64 (b : Int) ∧ ∃ V', Hid (ChAt wq y V' a (foldD ((allP a).take (c * a + b)) D0)) ∧ Hid (Turn w wq y V V' a)) (fun v _ => a - (intOf v).toNat)
              case atStart => exact ⟨0, Nat.zero_le _, rfl, V3, H3, T3⟩
              case round =>
                obtain ⟨b, hb, rfl, V4, H4, T4⟩ := hrel
                clear H3 T3
                by_cases hbn : b < a
                · have hb1 : (b : Int) < (a : Int) := by omega
                  obtain ⟨g4, l4⟩ := foldD_gd ((allP a).take (c * a + b)) _ (fun p hp => take_in hp) HGA.out HLA.out
                  have HST := Lib.hid (foldD_step hcn hbn D0)
                  obtain ⟨E0, hE0⟩ : ∃ D, foldD ((allP a).take (c * a + b)) D0 = D := ⟨_, rfl⟩
                  rw [hE0] at g4 l4 H4 HST
                  obtain ⟨TG, hTG⟩ : ∃ D, drainS 200 E0 c b = D := ⟨_, rfl⟩
                  rw [hTG] at HST
                  have HTG := Lib.hid hTG
                  have G4 := Lib.hid g4
                  have L4 := Lib.hid l4
                  have HCN := Lib.hid hcn
                  have HBN := Lib.hid hbn
                  clear g4 l4 hE0 hTG
                  go_wp2_with fail
                  obtain ⟨wo5, rfl⟩ : ∃ x, x = wr := ⟨wr, rfl⟩
                  go_loopw [9] (fun v wq => ∃ k : Nat, k ≤ 200 ∧ v = .int .i64 (k : Int) ∧ ∃ V' D, Hid (ChAt wq y V' a D) ∧ Hid (Turn w wq y V V' a) ∧ Hid (Gd Z a D) ∧ Hid (LB 800200 D) ∧ Hid (drainS (200 - k) D c b = TG)) (fun v _ => 200 - (intOf v).toNat)
                  case atStart => exact ⟨0, by omega, rfl, V4, E0, H4, T4, G4, L4, HTG⟩
                  case round =>
                    obtain ⟨k, hk, rfl, V5, D, H5, T5, G5, L5, HDR⟩ := hrel
                    clear H4 T4 G4 L4
                    by_cases hk2 : k < 200
                    · have hk0 : (k : Int) < 200 := by omega
                      have hDl := deliver_any wr y V5 a D H5.out (G5.out.fit L5.out (by decide)).sane (fun i j => Nat.le_trans (L5.out i j) (by decide)) G5.out.small (c : Int) (b : Int) false
                      rw [deliverI_nat HCN.out HBN.out] at hDl
                      have hdr := HDR.out
                      rw [show 200 - k = (200 - (k + 1)) + 1 by omega] at hdr
                      unfold drainS at hdr
                      cases hd : (deliverS D c b false).2 with
                      | true =>
                        rw [if_pos hd] at hdr
                        rw [hd] at hDl
                        have HDL := Lib.hid hDl
                        have HDR2 := Lib.hid hdr
                        clear hDl hdr hd
                        go_wp2_with (go_at_call 28; refine HDL.out.mono ?_; rintro e w5 ⟨rfl, V6, h6, t6⟩)
                        exact ⟨⟨k + 1, by omega, by go_num, V6, _, Lib.hid h6, Lib.hid (T5.out.trans t6), Lib.hid (G5.out.deliver HCN.out HBN.out false), Lib.hid (L5.out.deliver false), HDR2⟩, by simp [intOf]; omega⟩
                      | false =>
                        rw [if_neg (by rw [hd]; decide)] at hdr
                        rw [hd, deliver_false hd, hdr] at hDl
                        have HDL := Lib.hid hDl
                        clear hDl hdr hd
                        go_wp2_with (go_at_call 28; refine HDL.out.mono ?_; rintro e w5 ⟨rfl, V6, h6, t6⟩)
                        exact ⟨⟨b + 1, by omega, by go_num, V6, Lib.hid (by rw [HST.out]; exact h6), Lib.hid (T5.out.trans t6)⟩, by simp [intOf]; omega⟩
                    · obtain rfl : k = 200 := by omega
                      have HDT := Lib.hid (show D = TG from HDR.out)
                      clear HDR
                      go_wp2_with fail
                      exact ⟨⟨b + 1, by omega, by go_num, V5, Lib.hid (by rw [HST.out, ← HDT.out]; exact H5.out), T5⟩, by simp [intOf]; omega⟩
                · obtain rfl : b = a := by omega
                  go_wp2_with fail
                  exact ⟨⟨c + 1, by omega, by go_num, V4, Lib.hid (by rw [Nat.succ_mul]; exact H4.out), T4⟩, by simp [intOf]; omega⟩
            · obtain rfl : c = a := by omega
              go_wp2_with fail
              exact ⟨⟨r + 1, by omega, by go_num, V3, Lib.hid (by rw [show rndS c (r + 1) C = roundS c (rndS c r C) from rfl, HCR.out, round_fold, HD0.out]; exact H3.out), T3⟩, by simp [intOf]; omega⟩
    · obtain rfl : r = 2 := by omega
      go_wp2_with fail
      exact bodyPost_end (results_none rfl _ _ _) rfl ⟨⟨_, rfl⟩, V1, by rw [finish_rnd]; exact H1.out, T1.out⟩
end Go.Proofs.Ytaicbllfkehhjaa

/- A chamber that the laws make, in plain words: proposals and withdrawals. -/
namespace Go.Proofs.Ytaicbllfkehhjaa

theorem LB.tell {K : Nat} {C : Ch} (h : LB K C) (i : Nat) (x : Cl) : LB (K + 1) (C.tell i x) := fun a b => by
  have h1 := h a b
  show (if a = i ∧ b ≠ i ∧ b < C.pages.length then C.lines a b ++ [[x]] else C.lines a b).length ≤ K + 1
  split
  · simp
    omega
  · omega
theorem LB.upd {K : Nat} {C : Ch} (h : LB K C) (i : Nat) (L : List Cl) : LB K (C.upd i L) := h
theorem LB.propose {K : Nat} {C : Ch} (h : LB K C) (i : Nat) (t : St2) (p : Pt) : LB (K + 1) (proposeS C i t p).1 := by
  unfold proposeS
  have h0 := h.mono (Nat.le_succ K)
  split
  · exact h0
  · split
    · exact h0
    · split
      · exact h0
      · exact (h.upd i _).tell i _
theorem LB.withdraw {K : Nat} {C : Ch} (h : LB K C) (i : Nat) (t : St2) : LB (K + 1) (withdrawS C i t).1 := by
  unfold withdrawS
  have h0 := h.mono (Nat.le_succ K)
  split
  · exact h0
  · split
    · exact h0
    · exact (h.upd i _).tell i _
theorem propose_mem {C : Ch} {i : Nat} {t : St2} {p : Pt} {a b : Nat} {m : List Cl} (h : m ∈ (proposeS C i t p).1.lines a b) : m ∈ C.lines a b ∨ ∃ x, m = [x] := by
  unfold proposeS at h
  split at h
  · exact .inl h
  · split at h
    · exact .inl h
    · split at h
      · exact .inl h
      · rcases tell_mem h with h | ⟨_, h⟩
        · exact .inl h
        · exact .inr ⟨_, h⟩
theorem withdraw_mem {C : Ch} {i : Nat} {t : St2} {a b : Nat} {m : List Cl} (h : m ∈ (withdrawS C i t).1.lines a b) : m ∈ C.lines a b ∨ ∃ x, m = [x] := by
  unfold withdrawS at h
  split at h
  · exact .inl h
  · split at h
    · exact .inl h
    · rcases tell_mem h with h | ⟨_, h⟩
      · exact .inl h
      · exact .inr ⟨_, h⟩
theorem small_of {C D : Ch} (h : ∀ i k m, m ∈ C.lines i k → m.length ≤ 100000) (hm : ∀ {i k m}, m ∈ D.lines i k → m ∈ C.lines i k ∨ ∃ x, m = [x]) : ∀ i k m, m ∈ D.lines i k → m.length ≤ 100000 := fun i k m h1 => by
  rcases hm h1 with h1 | ⟨x, rfl⟩
  · exact h i k m h1
  · simp
theorem Gd.propose {Z : List Cl} {n i : Nat} {C : Ch} (h : Gd Z n C) (hi : i < n) (hz : Z.length < 64) (t : St2) (p : Pt) :
    ((proposeS C i t p).2.2 ≠ 0 → (proposeS C i t p).1 = C) ∧ ((proposeS C i t p).2.2 = 0 → (proposeS C i t p).2.1 = (newC i (C.pg i) t p).id ∧ Gd (Z ++ [newC i (C.pg i) t p]) n (proposeS C i t p).1 ∧ getC ((proposeS C i t p).1.pg i) (newC i (C.pg i) t p).id = some (newC i (C.pg i) t p)) := by
  obtain ⟨h1, h2⟩ := h.inv.propose hi t p
  refine ⟨h1, fun e => ?_⟩
  obtain ⟨a1, a2, a3⟩ := h2 e
  exact ⟨a1, ⟨a2, by rw [List.length_append]; simp; omega, small_of h.small propose_mem⟩, a3⟩
theorem Gd.withdraw {Z : List Cl} {n i : Nat} {C : Ch} (h : Gd Z n C) (hi : i < n) (t : St2) :
    ((withdrawS C i t).2 ≠ 0 → (withdrawS C i t).1 = C) ∧ ((withdrawS C i t).2 = 0 → t.1 = (i : Int) ∧ ∃ c, getC Z t = some c ∧ Gd (setC Z (goneC c)) n (withdrawS C i t).1) := by
  obtain ⟨h1, h2⟩ := h.inv.withdraw hi t
  refine ⟨h1, fun e => ?_⟩
  obtain ⟨a1, c, a2, a3⟩ := h2 e
  exact ⟨a1, c, a2, a3, by unfold setC; rw [List.length_map]; exact h.few, small_of h.small withdraw_mem⟩
/-- Good with few clauses and few messages. -/
def Ok (n j : Nat) (C : Ch) : Prop := ∃ Z, Gd Z n C ∧ Z.length ≤ j ∧ LB j C
theorem Ok.new (n : Nat) : Ok n 0 (newS n) := ⟨[], Gd.new n, Nat.le_refl _, LB.new n⟩
theorem Ok.mono {n j j' : Nat} {C : Ch} (h : Ok n j C) (hj : j ≤ j') : Ok n j' C := by
  obtain ⟨Z, h1, h2, h3⟩ := h
  exact ⟨Z, h1, Nat.le_trans h2 hj, h3.mono hj⟩
theorem Ok.propose {n j i : Nat} {C : Ch} (h : Ok n j C) (hi : i < n) (hj : j < 64) (t : St2) (p : Pt) : Ok n (j + 1) (proposeS C i t p).1 := by
  obtain ⟨Z, h1, h2, h3⟩ := h
  obtain ⟨a, b⟩ := h1.propose hi (by omega) t p
  by_cases e : (proposeS C i t p).2.2 = 0
  · exact ⟨_, (b e).2.1, by rw [List.length_append]; simp; omega, h3.propose i t p⟩
  · exact ⟨Z, (a e).symm ▸ h1, by omega, h3.propose i t p⟩
theorem Ok.withdraw {n j i : Nat} {C : Ch} (h : Ok n j C) (hi : i < n) (t : St2) : Ok n (j + 1) (withdrawS C i t).1 := by
  obtain ⟨Z, h1, h2, h3⟩ := h
  obtain ⟨a, b⟩ := h1.withdraw hi t
  by_cases e : (withdrawS C i t).2 = 0
  · obtain ⟨_, c, _, b2⟩ := b e
    exact ⟨_, b2, by unfold setC; rw [List.length_map]; omega, h3.withdraw i t⟩
  · exact ⟨Z, (a e).symm ▸ h1, by omega, h3.withdraw i t⟩
theorem Ok.deliver {n j a b : Nat} {C : Ch} (h : Ok n j C) (ha : a < n) (hb : b < n) (l : Bool) : Ok n j (deliverS C a b l).1 := by
  obtain ⟨Z, h1, h2, h3⟩ := h
  exact ⟨Z, h1.deliver ha hb l, h2, h3.deliver l⟩
theorem Ok.again {n j a b : Nat} {C : Ch} (h : Ok n j C) (ha : a < n) : Ok n (j + 1) (againS C a b).1 := by
  obtain ⟨Z, h1, h2, h3⟩ := h
  exact ⟨Z, h1.again ha, by omega, h3.again⟩
end Go.Proofs.Ytaicbllfkehhjaa

/- A chamber of a law's own. -/
namespace Go.Proofs.Ytaicbllfkehhjaa
open Go.RowKit

theorem Ok.fit {n j : Nat} {C : Ch} (h : Ok n j C) (hj : j ≤ 900000) : Fit n C := by
  obtain ⟨Z, h1, _, h3⟩ := h
  exact h1.fit h3 hj
theorem Ok.proposeI {n j : Nat} {C : Ch} (h : Ok n j C) (hj : j < 64) (i : Int) (t : St2) (p : Pt) : Ok n (j + 1) (proposeI n C i t p).1 := by
  unfold Go.Proofs.Ytaicbllfkehhjaa.proposeI
  split
  · exact h.propose (by omega) hj t p
  · exact h.mono (Nat.le_succ j)
theorem Ok.withdrawI {n j : Nat} {C : Ch} (h : Ok n j C) (i : Int) (t : St2) : Ok n (j + 1) (withdrawI n C i t).1 := by
  unfold Go.Proofs.Ytaicbllfkehhjaa.withdrawI
  split
  · exact h.withdraw (by omega) t
  · exact h.mono (Nat.le_succ j)
theorem Ok.deliverI {n j : Nat} {C : Ch} (h : Ok n j C) (a b : Int) (l : Bool) : Ok n j (deliverI n C a b l).1 := by
  unfold Go.Proofs.Ytaicbllfkehhjaa.deliverI
  split
  · exact h.deliver (by omega) (by omega) l
  · exact h
theorem Ok.againI {n j : Nat} {C : Ch} (h : Ok n j C) (a b : Int) : Ok n (j + 1) (againI n C a b).1 := by
  unfold Go.Proofs.Ytaicbllfkehhjaa.againI
  split
  · exact h.again (by omega)
  · exact h.mono (Nat.le_succ j)
theorem Ok.doI {n j : Nat} {C : Ch} (h : Ok n j C) (hj : j < 64) (o : OpC) : Ok n (j + 1) (doI n C o).1 := by
  unfold Go.Proofs.Ytaicbllfkehhjaa.doI
  split
  · exact h.proposeI hj _ _ _
  · split
    · exact h.withdrawI _ _
    · split
      · exact (h.deliverI _ _ _).mono (Nat.le_succ j)
      · split
        · exact h.againI _ _
        · exact h.mono (Nat.le_succ j)

/-- A chamber that a law has made since w0. -/
structure Live (w0 w : World) (y : Lay) (V : Nat → Nat → Value) (n : Nat) (C : Ch) : Prop where
  at_ : ChAt w y V n C
  fo : ∀ g, Fo y V n g → w0.heap.size ≤ g
  bel : Below w0.heap.size w0 w
section
variable {w0 w w' : World} {y : Lay} {V V' : Nat → Nat → Value} {n j : Nat} {C C' : Ch}
theorem Live.turn (h : Live w0 w y V n C) (k : ChAt w' y V' n C') (t : Turn w w' y V V' n) : Live w0 w' y V' n C' :=
  ⟨k, fun g hg => (t.2 g hg).elim (h.fo g) fun e => Nat.le_trans h.bel.size e, h.bel.trans (t.1.below h.bel.size fun i hi => h.fo i hi)⟩
theorem Live.same (h : Live w0 w y V n C) (k : Below w.heap.size w w') : Live w0 w' y V n C := ⟨h.at_.below k, h.fo, h.bel.trans (k.mono h.bel.size)⟩
theorem Live.drew (h : Live w0 w y V n C) : Live w0 w.drew y V n C := h.same ⟨rfl, rfl, rfl, Nat.le_refl _, fun _ _ => rfl⟩
theorem Live.alloc (h : Live w0 w y V n C) (o : Obj) : Live w0 (w.alloc o) y V n C := h.same (below_self_alloc w o)
theorem Live.kblk (h : Live w0 w y V n C) (t : Turn w w' y V V' n) {g : Nat} {ty : TypeId} {cs : Array Value} (k : Blk w g ty cs) (h1 : ty ≠ 75) (h2 : ty ≠ 41) : Blk w' g ty cs := t.blk h.at_ k h1 h2
theorem Live.kcls (h : Live w0 w y V n C) (t : Turn w w' y V V' n) {B : Nat} {v : Value} {l : List Cl} (k : OwnCls w B v l) : OwnCls w' B v l := k.only t.1 fun g hf => h.at_.wr g hf
theorem Live.propose (h : Live w0 w y V n C) (f : Fit n C) (i a b : Int) (p : Pt) :
    Calls Try.prog 29 #[.pointer (some ⟨y.p, 0, none⟩), .int .i64 i, .agg #[.int .i64 a, .int .i64 b], .agg (ptA p)] w fun e w' =>
      e = .returned (.tuple #[.agg #[.int .i64 (proposeI n C i (a, b) p).2.1.1, .int .i64 (proposeI n C i (a, b) p).2.1.2], .int .i64 (proposeI n C i (a, b) p).2.2]) ∧ ∃ V', Live w0 w' y V' n (proposeI n C i (a, b) p).1 ∧ Turn w w' y V V' n :=
  (propose_any w y V n C h.at_ f.sane f.lines i a b p).mono fun _ _ ⟨h1, V', h2, h3⟩ => ⟨h1, V', h.turn h2 h3, h3⟩
theorem Live.withdraw (h : Live w0 w y V n C) (f : Fit n C) (i a b : Int) :
    Calls Try.prog 31 #[.pointer (some ⟨y.p, 0, none⟩), .int .i64 i, .agg #[.int .i64 a, .int .i64 b]] w fun e w' => e = .returned (.int .i64 (withdrawI n C i (a, b)).2) ∧ ∃ V', Live w0 w' y V' n (withdrawI n C i (a, b)).1 ∧ Turn w w' y V V' n :=
  (withdraw_any w y V n C h.at_ f.sane f.lines i a b).mono fun _ _ ⟨h1, V', h2, h3⟩ => ⟨h1, V', h.turn h2 h3, h3⟩
theorem Live.deliver (h : Live w0 w y V n C) (f : Fit n C) (a b : Int) (l : Bool) :
    Calls Try.prog 28 #[.pointer (some ⟨y.p, 0, none⟩), .int .i64 a, .int .i64 b, .bool l] w fun e w' => e = .returned (.bool (deliverI n C a b l).2) ∧ ∃ V', Live w0 w' y V' n (deliverI n C a b l).1 ∧ Turn w w' y V V' n :=
  (deliver_any w y V n C h.at_ f.sane (fun i k => Nat.le_trans (f.lines i k) (by decide)) f.msgs a b l).mono fun _ _ ⟨h1, V', h2, h3⟩ => ⟨h1, V', h.turn h2 h3, h3⟩
theorem Live.again (h : Live w0 w y V n C) (f : Fit n C) (a b : Int) :
    Calls Try.prog 27 #[.pointer (some ⟨y.p, 0, none⟩), .int .i64 a, .int .i64 b] w fun e w' => e = .returned (.int .i64 (againI n C a b).2) ∧ ∃ V', Live w0 w' y V' n (againI n C a b).1 ∧ Turn w w' y V V' n :=
  (again_any w y V n C h.at_ f.sane (fun i k => Nat.le_trans (f.lines i k) (by decide)) a b).mono fun _ _ ⟨h1, V', h2, h3⟩ => ⟨h1, V', h.turn h2 h3, h3⟩
theorem Live.view (h : Live w0 w y V n C) (f : Fit n C) (i : Int) :
    Calls Try.prog 20 #[.pointer (some ⟨y.p, 0, none⟩), .int .i64 i] w fun e w' => ∃ v, e = .returned v ∧ OwnCls w' w.heap.size v (viewS n C i) ∧ Below w.heap.size w w' := view_any w y V n C h.at_ f.sane i
theorem Live.settled (h : Live w0 w y V n C) (f : Fit n C) :
    Calls Try.prog 21 #[.pointer (some ⟨y.p, 0, none⟩)] w fun e w' => e = .returned (.bool (settledS C)) ∧ Below w.heap.size w w' := settled_any w y V n C h.at_ f.sane
theorem Live.run (h : Live w0 w y V n C) (f : Fit n C) (o : OpC) (hok : OpOk o) :
    Calls Try.prog 14 #[.pointer (some ⟨y.p, 0, none⟩), .agg (opA o)] w fun e w' =>
      e = .returned (.tuple #[.agg #[.int .i64 (doI n C o).2.1.1, .int .i64 (doI n C o).2.1.2], .int .i64 (doI n C o).2.2.1, .bool (doI n C o).2.2.2]) ∧ ∃ V', Live w0 w' y V' n (doI n C o).1 ∧ Turn w w' y V V' n :=
  (do_any w y V n C h.at_ f o hok).mono fun _ _ ⟨h1, V', h2, h3⟩ => ⟨h1, V', h.turn h2 h3, h3⟩
theorem Live.finish (h : Live w0 w y V n C) (hn5 : n ≤ 5) {Z : List Cl} (hg : Gd Z n C) (hk : LB 800000 C) :
    Calls Try.prog 25 #[.pointer (some ⟨y.p, 0, none⟩), .int .i64 (n : Int)] w fun e w' => (∃ r, e = .returned r) ∧ ∃ V', Live w0 w' y V' n (finishS n C) ∧ Turn w w' y V V' n :=
  (finish_any w y V n hn5 C Z h.at_ hg hk).mono fun _ _ ⟨h1, V', h2, h3⟩ => ⟨h1, V', h.turn h2 h3, h3⟩
theorem Live.new (w0 w : World) (hb : Below w0.heap.size w0 w) (n : Nat) (h1 : 1 ≤ n) (h2 : n ≤ 60) :
    Calls Try.prog 10 #[.int .i64 (n : Int)] w fun e w' => ∃ y V, e = .returned (.tuple #[.pointer (some ⟨y.p, 0, none⟩), .int .i64 0]) ∧ Live w0 w' y V n (newS n) ∧ (∀ g, Fo y V n g → w.heap.size ≤ g) ∧ Below w.heap.size w w' :=
  (cnew_ok w n h1 h2).mono fun _ _ ⟨y, V, e, k1, k2, k3⟩ => ⟨y, V, e, ⟨k1, fun g hg => Nat.le_trans hb.size (k3 g hg), hb.trans (k2.mono hb.size)⟩, k3, k2⟩
end
end Go.Proofs.Ytaicbllfkehhjaa
