/- Part 4 of what the laws of this seat stand on: Hr, Hs, Id, If, Ip, Ew, Fb, Open, Fc. -/
import Derived.Test.YtaicbllfkehhjaaY3
import Derived.Deep.DeepCutAuto
import Derived.Deep.Slices
import Derived.Deep.Fields
import Derived.ChangeSame
import Derived.ChangeOld
import Derived.ProofKit
import Derived.OpenShut
import Derived.ShutString

/- What is kept by every operation on a chamber; what is reached when all has been sent. Plain words. -/
namespace Go.Proofs.Ytaicbllfkehhjaa

def In1 (L : List Cl) (c : Cl) : Prop := ∃ d, getC L c.id = some d ∧ d.after = c.after ∧ d.pt = c.pt ∧ (c.gone = true → d.gone = true)
theorem Kept.in1 {L M : List Cl} {c : Cl} (h : Kept L M) (k : In1 L c) : In1 M c := by
  obtain ⟨d, h1, h2, h3, h4⟩ := k
  obtain ⟨e, k1, k2, k3, k4⟩ := h _ d h1
  exact ⟨e, k1, k2.trans h2, k3.trans h3, fun g => k4 (h4 g)⟩
theorem Kept.mem {L M : List Cl} (hu : Uq L) (h : Kept L M) {c : Cl} (hc : c ∈ L) : In1 M c := h _ c (getC_of hu hc)
theorem Kept.of_mem {L M : List Cl} (h : ∀ c ∈ L, In1 M c) : Kept L M := fun t c hc => by
  obtain ⟨h1, rfl⟩ := getC_mem hc
  exact h c h1
theorem kept_both {L M : List Cl} (hl : Uq L) (hm : Uq M) (h : Kept L M) (k : Kept M L) : L.Perm M := perm_of_getC hl hm fun t => by
  have key : ∀ {L M : List Cl}, Kept L M → Kept M L → ∀ c, getC L t = some c → getC M t = some c := fun {L M} h k c hc => by
    obtain ⟨d, h1, h2, h3, h4⟩ := h t c hc
    obtain ⟨e, k1, k2, k3, k4⟩ := k t d h1
    rw [hc] at k1
    injection k1 with k1
    subst k1
    have : d = c := Cl.ext' ((getC_mem h1).2.trans (getC_mem hc).2.symm) h2 h3 (by
      cases hg : d.gone with
      | true => exact (k4 hg).symm
      | false =>
        cases hc' : c.gone with
        | true => rw [h4 hc'] at hg; cases hg
        | false => rfl)
    rw [h1, this]
  cases hL : getC L t with
  | some c => exact (key h k c hL).symm
  | none =>
    cases hM : getC M t with
    | none => rfl
    | some d => rw [key k h d hM] at hL; cases hL
theorem len_sub : ∀ {X Z : List St2}, X.Nodup → (∀ x ∈ X, x ∈ Z) → X.length ≤ Z.length
  | [], _, _, _ => Nat.zero_le _
  | x :: X, Z, hn, hs => by
    have h1 := List.nodup_cons.1 hn
    have hx := hs x List.mem_cons_self
    have h2 := len_sub (X := X) (Z := Z.erase x) h1.2 fun y hy => (List.mem_erase_of_ne (fun e => by subst e; exact h1.1 hy)).2 (hs y (List.mem_cons_of_mem _ hy))
    have h3 := List.length_erase_of_mem hx
    have h4 : 0 < Z.length := List.length_pos_of_mem hx
    rw [List.length_cons]
    omega
theorem uq_ids {L : List Cl} (h : Uq L) : (L.map (·.id)).Nodup := List.pairwise_map.2 h
theorem kept_len {L Z : List Cl} (hl : Uq L) (h : Kept L Z) : L.length ≤ Z.length := by
  have := len_sub (uq_ids hl) (Z := Z.map (·.id)) fun x hx => by
    obtain ⟨c, hc, rfl⟩ := List.mem_map.1 hx
    obtain ⟨d, h1, _⟩ := h.mem hl hc
    exact List.mem_map.2 ⟨d, (getC_mem h1).1, (getC_mem h1).2⟩
  simpa using this
theorem kept_len_lt {L Z : List Cl} {c : Cl} (hl : Uq L) (h : Kept L Z) (hn : getC L c.id = none) (hc : In1 Z c) : L.length < Z.length := by
  have h1 := uq_snoc hl hn
  have h2 : Kept (L ++ [c]) Z := Kept.of_mem fun d hd => by
    rcases List.mem_append.1 hd with hd | hd
    · exact h.mem hl hd
    · rw [List.mem_singleton.1 hd]; exact hc
  have := kept_len h1 h2
  rw [List.length_append, List.length_singleton] at this
  omega

/-! ### one clause put -/
theorem put_le {L Z : List Cl} {c : Cl} (h : Kept L Z) (hc : In1 Z c) : Kept (putS L c).1 Z := by
  unfold putS
  split
  · exact h
  split
  · rename_i old ho
    split
    · rename_i hs
      intro t x hx
      rw [getC_set] at hx
      split at hx
      · rename_i ht
        have hid : (mrgC old c).id = c.id := (getC_mem ho).2
        rw [ht, hid, ho] at hx
        simp only [Option.map_some, Option.some.injEq] at hx
        subst hx
        obtain ⟨d, h1, h2, h3, h4⟩ := h _ old ho
        obtain ⟨e, k1, k2, k3, k4⟩ := hc
        rw [h1] at k1
        injection k1 with k1
        subst k1
        refine ⟨d, by rw [ht, hid]; exact h1, h2, h3, fun hg => ?_⟩
        simp only [mrgC, Bool.or_eq_true] at hg
        exact hg.elim h4 k4
      · exact h t x hx
    · exact h
  · rename_i hn
    split
    · exact h
    split
    · exact h
    intro t x hx
    rw [getC_snoc hn] at hx
    split at hx
    · rename_i ht
      injection hx with hx
      subst hx
      rw [ht]
      exact hc
    · exact h t x hx
theorem putAll_le : ∀ {m L Z : List Cl}, Kept L Z → (∀ c ∈ m, In1 Z c) → Kept (putAll L m) Z
  | [], _, _, h, _ => h
  | c :: m, _, _, h, hm => putAll_le (m := m) (put_le h (hm c List.mem_cons_self)) fun d hd => hm d (List.mem_cons_of_mem _ hd)
/-- A clause that is proper, in Z, and whose After is there, is taken. -/
theorem put_in {L Z : List Cl} {c : Cl} (hl : Uq L) (h : Kept L Z) (hz : Z.length ≤ 64) (hc : In1 Z c) (hp : properC c = true) (ha : c.after = z2 ∨ ∃ d, getC L c.after = some d) : In1 (putS L c).1 c := by
  unfold putS
  rw [if_neg (by rw [hp]; decide)]
  cases ho : getC L c.id with
  | some old =>
    obtain ⟨d, h1, h2, h3, h4⟩ := h _ old ho
    obtain ⟨e, k1, k2, k3, k4⟩ := hc
    rw [h1] at k1
    injection k1 with k1
    subst k1
    have hid := (getC_mem ho).2
    have hs : sameC old c = true := sameC_iff.2 ⟨hid, h2.symm.trans k2, h3.symm.trans k3⟩
    simp only [hs, if_true]
    refine ⟨mrgC old c, ?_, h2.symm.trans k2, h3.symm.trans k3, fun hg => by simp [mrgC, hg]⟩
    rw [getC_set, if_pos (by show c.id = old.id; exact hid.symm), ho]
    rfl
  | none =>
    have hlt := kept_len_lt hl h ho hc
    have ho2 : openN L ≤ L.length := List.countP_le_length
    have n1 : ¬ (c.after ≠ z2 ∧ getC L c.after = none) := by
      rintro ⟨h1, h2⟩
      rcases ha with ha | ⟨d, ha⟩
      · exact h1 ha
      · rw [h2] at ha; cases ha
    have n2 : ¬ (c.gone = false ∧ 64 ≤ openN L) := fun ⟨_, h2⟩ => by omega
    simp only [if_neg n1, if_neg n2]
    exact ⟨c, by rw [getC_snoc ho, if_pos rfl], rfl, rfl, id⟩
theorem walk_after {M : List Cl} {A B : List Cl} {c : Cl} (h : Pg M) (hs : walkS M = A ++ c :: B) : c.after = z2 ∨ ∃ d ∈ A, d.id = c.after := by
  have hc : c ∈ walkS M := by rw [hs]; simp
  rcases walk_below hc with h1 | ⟨X, d, Y, h1, h2, h3⟩
  · exact .inl h1
  · exact .inr ⟨d, before (uq_nodup (walk_uq h.tr)) hs h1 h3, h2⟩
/-- What a seat sees, put on another page whole. -/
theorem put_walk {M Z : List Cl} (hM : Pg M) (hMZ : Kept M Z) (hz : Z.length ≤ 64) : ∀ (B A X : List Cl), walkS M = A ++ B → Pg X → Kept X Z → (∀ c ∈ A, In1 X c) → ∀ c ∈ walkS M, In1 (putAll X B) c
  | [], A, X, hs, _, _, hA => by
    rw [hs, List.append_nil]
    exact hA
  | c :: B, A, X, hs, hX, hXZ, hA => by
    have hcM : c ∈ M := (walk_perm hM.tr).mem_iff.1 (by rw [hs]; simp)
    have hcZ : In1 Z c := hMZ.mem hM.uq hcM
    have hin : In1 (putS X c).1 c := put_in hX.uq hXZ hz hcZ (hM.proper c hcM) (by
      rcases walk_after hM hs with h | ⟨d, hd, h⟩
      · exact .inl h
      · obtain ⟨e, h1, _⟩ := hA d hd
        exact .inr ⟨e, h ▸ h1⟩)
    refine put_walk hM hMZ hz B (A ++ [c]) (putS X c).1 (by rw [hs]; simp) (hX.put c) (put_le hXZ hcZ) fun d hd => ?_
    rcases List.mem_append.1 hd with hd | hd
    · exact (Kept.put c).in1 (hA d hd)
    · rw [List.mem_singleton.1 hd]; exact hin

/-! ### the invariant -/
structure Inv (Z : List Cl) (n : Nat) (C : Ch) : Prop where
  len : C.pages.length = n
  pg : ∀ i, i < n → Pg (C.pg i)
  le : ∀ i, i < n → Kept (C.pg i) Z
  msg : ∀ i k, i < n → k < n → i ≠ k → ∀ m ∈ C.lines i k, ∀ c ∈ m, In1 (C.pg i) c
  own : ∀ d ∈ Z, ∃ i : Nat, i < n ∧ d.id.1 = (i : Int) ∧ getC (C.pg i) d.id = some d
  uq : Uq Z
theorem Inv.new (n : Nat) : Inv [] n (newS n) where
  len := by simp [newS]
  pg := fun i hi => by
    have : (newS n).pg i = [] := by simp [newS, Ch.pg, List.getD_eq_getElem?_getD, hi]
    rw [this]
    exact Pg.nil
  le := fun i hi t c hc => by
    have : (newS n).pg i = [] := by simp [newS, Ch.pg, List.getD_eq_getElem?_getD, hi]
    rw [this] at hc
    cases hc
  msg := fun i k _ _ _ m hm => by cases hm
  own := fun d hd => by cases hd
  uq := List.Pairwise.nil
/-- Z holds a clause of seat i just as its page does. -/
theorem Inv.at_ {Z : List Cl} {n i : Nat} {C : Ch} (h : Inv Z n C) {d : Cl} (hd : d ∈ Z) (hi : d.id.1 = (i : Int)) : getC (C.pg i) d.id = some d := by
  obtain ⟨j, _, h2, h3⟩ := h.own d hd
  have : j = i := by omega
  exact this ▸ h3
theorem Inv.of_page {Z : List Cl} {n i : Nat} {C : Ch} (h : Inv Z n C) (hin : i < n) {c : Cl} {t : St2} (hc : getC (C.pg i) t = some c) (hi : t.1 = (i : Int)) : getC Z t = some c := by
  obtain ⟨d, h1, _⟩ := h.le i hin t c hc
  obtain ⟨h2, h3⟩ := getC_mem h1
  have := h.at_ h2 (by rw [h3]; exact hi)
  rw [h3, hc] at this
  injection this with this
  rw [h1, this]
/-- A page has turned into one that keeps it and holds no more than Z, the lines being as they were or having lost some. -/
theorem Inv.turn {Z : List Cl} {n b : Nat} {C D : Ch} (h : Inv Z n C) (hb : b < n) (hl : D.pages.length = n) (hp : ∀ k, k < n → k ≠ b → D.pg k = C.pg k) (h1 : Pg (D.pg b)) (h2 : Kept (C.pg b) (D.pg b)) (h3 : Kept (D.pg b) Z)
    (hm : ∀ i k m, i < n → k < n → i ≠ k → m ∈ D.lines i k → m ∈ C.lines i k ∨ ∀ c ∈ m, In1 (D.pg i) c) : Inv Z n D where
  len := hl
  pg := fun k hk => by
    by_cases e : k = b
    · rw [e]; exact h1
    · rw [hp k hk e]; exact h.pg k hk
  le := fun k hk => by
    by_cases e : k = b
    · rw [e]; exact h3
    · rw [hp k hk e]; exact h.le k hk
  msg := fun i k hi hk hik m hmm c hc => by
    rcases hm i k m hi hk hik hmm with h4 | h4
    · have h5 := h.msg i k hi hk hik m h4 c hc
      by_cases e : i = b
      · rw [e] at h5 ⊢; exact h2.in1 h5
      · rw [hp i hi e]; exact h5
    · exact h4 c hc
  own := fun d hd => by
    obtain ⟨i, hi, k1, k2⟩ := h.own d hd
    refine ⟨i, hi, k1, ?_⟩
    by_cases e : i = b
    · subst e
      obtain ⟨d1, e1, e2, e3, e4⟩ := h2 _ d k2
      obtain ⟨d2, f1, f2, f3, f4⟩ := h3 _ d1 e1
      rw [getC_of h.uq hd] at f1
      injection f1 with f1
      subst f1
      have : d1 = d := Cl.ext' ((getC_mem e1).2) e2 e3 (by
        cases hg : d1.gone with
        | true => exact (f4 hg).symm
        | false =>
          cases hc' : d.gone with
          | true => rw [e4 hc'] at hg; cases hg
          | false => rfl)
      rw [e1, this]
    · rw [hp i hi e]; exact k2
  uq := h.uq
theorem upd_lines (C : Ch) (i : Nat) (L : List Cl) (a b : Nat) : (C.upd i L).lines a b = C.lines a b := rfl
theorem Inv.deliver {Z : List Cl} {n a b : Nat} {C : Ch} (h : Inv Z n C) (ha : a < n) (hb : b < n) (lost : Bool) : Inv Z n (deliverS C a b lost).1 := by
  unfold deliverS
  split
  · exact h
  rename_i hab
  split
  · exact h
  · rename_i m q hq
    have hbl : b < C.pages.length := by rw [h.len]; exact hb
    have hmm : ∀ c ∈ m, In1 Z c := fun c hc => (h.le a ha).in1 (h.msg a b ha hb hab m (by rw [hq]; simp) c hc)
    have hlines : ∀ i k x, x ∈ (if i = a ∧ k = b then q else C.lines i k) → x ∈ C.lines i k := fun i k x hx => by
      split at hx
      · rename_i e
        rw [e.1, e.2, hq]
        exact List.mem_cons_of_mem _ hx
      · exact hx
    cases lost with
    | true => exact h.turn hb h.len (fun _ _ _ => rfl) (h.pg b hb) (Kept.refl _) (h.le b hb) fun i k x _ _ _ hx => .inl (hlines i k x hx)
    | false =>
      have e : ∀ k, (C.upd b (putAll (C.pg b) m)).pg k = if k = b then putAll (C.pg b) m else C.pg k := pg_upd hbl
      refine h.turn hb (by simpa [Ch.upd] using h.len) (fun k _ hk => ?_) ?_ ?_ ?_ fun i k x _ _ _ hx => .inl (hlines i k x hx)
      · show (C.upd b (putAll (C.pg b) m)).pg k = _
        rw [e, if_neg hk]
      · show Pg ((C.upd b (putAll (C.pg b) m)).pg b)
        rw [e, if_pos rfl]
        exact putAll_pg m (h.pg b hb)
      · show Kept _ ((C.upd b (putAll (C.pg b) m)).pg b)
        rw [e, if_pos rfl]
        exact Kept.all m _
      · show Kept ((C.upd b (putAll (C.pg b) m)).pg b) Z
        rw [e, if_pos rfl]
        exact putAll_le (h.le b hb) hmm
theorem Inv.again {Z : List Cl} {n a b : Nat} {C : Ch} (h : Inv Z n C) (ha : a < n) : Inv Z n (againS C a b).1 := by
  unfold againS
  split
  · exact h
  · refine h.turn ha h.len (fun _ _ _ => rfl) (h.pg a ha) (Kept.refl _) (h.le a ha) fun i k m _ _ _ hm => ?_
    simp only [Ch.send] at hm
    split at hm
    · rename_i e
      rcases List.mem_append.1 hm with hm | hm
      · exact .inl hm
      · right
        rw [List.mem_singleton.1 hm]
        intro c hc
        have hcM := (walk_perm (h.pg a ha).tr).mem_iff.1 hc
        show In1 (C.pg i) c
        rw [e.1]
        exact ⟨c, getC_of (h.pg a ha).uq hcM, rfl, rfl, id⟩
    · exact .inl hm
theorem tell_mem {C : Ch} {i : Nat} {x : Cl} {a b : Nat} {m : List Cl} (h : m ∈ (C.tell i x).lines a b) : m ∈ C.lines a b ∨ (a = i ∧ m = [x]) := by
  simp only [Ch.tell] at h
  split at h
  · rename_i e
    rcases List.mem_append.1 h with h | h
    · exact .inl h
    · exact .inr ⟨e.1, List.mem_singleton.1 h⟩
  · exact .inl h
theorem newC_fresh {Z : List Cl} {n i : Nat} {C : Ch} (h : Inv Z n C) (hi : i < n) (after : St2) (p : Pt) : getC (C.pg i) (newC i (C.pg i) after p).id = none ∧ getC Z (newC i (C.pg i) after p).id = none := by
  have h1 : getC (C.pg i) (newC i (C.pg i) after p).id = none := getC_none.2 fun c hc e => by
    have := cntS_lt ((walk_perm (h.pg i hi).tr).mem_iff.2 hc)
    rw [e] at this
    simp [newC] at this
  refine ⟨h1, getC_none.2 fun d hd e => ?_⟩
  have := h.at_ hd (i := i) (by rw [e]; rfl)
  rw [e, h1] at this
  cases this
theorem Inv.propose {Z : List Cl} {n i : Nat} {C : Ch} (h : Inv Z n C) (hi : i < n) (after : St2) (p : Pt) :
    ((proposeS C i after p).2.2 ≠ 0 → (proposeS C i after p).1 = C) ∧ ((proposeS C i after p).2.2 = 0 → (proposeS C i after p).2.1 = (newC i (C.pg i) after p).id ∧ Inv (Z ++ [newC i (C.pg i) after p]) n (proposeS C i after p).1 ∧
      getC ((proposeS C i after p).1.pg i) (newC i (C.pg i) after p).id = some (newC i (C.pg i) after p)) := by
  obtain ⟨f1, f2⟩ := newC_fresh h hi after p
  unfold proposeS
  split
  · exact ⟨fun _ => rfl, fun e => by cases e⟩
  split
  · exact ⟨fun _ => rfl, fun e => by cases e⟩
  split
  · rename_i h0
    exact ⟨fun _ => rfl, fun e => by dsimp only at e; exact absurd e h0⟩
  rename_i h0
  refine ⟨fun e => absurd rfl e, fun _ => ⟨rfl, ?_⟩⟩
  obtain ⟨g1, g2, g3⟩ := put_zero_new f1 (by simpa using h0)
  have hx : (newC i (C.pg i) after p).id.1 = (i : Int) := rfl
  generalize newC i (C.pg i) after p = x at *
  have hil : i < C.pages.length := by rw [h.len]; exact hi
  have e : ∀ k, ((C.upd i (putS (C.pg i) x).1).tell i x).pg k = if k = i then C.pg i ++ [x] else C.pg k := fun k => by
    rw [pg_tell, pg_upd hil, g1]
  refine ⟨?_, by rw [e, if_pos rfl, getC_snoc f1, if_pos rfl]⟩
  have hZ : Kept Z (Z ++ [x]) := fun t c hc => by
    have hne : t ≠ x.id := fun e => by rw [e, f2] at hc; cases hc
    exact ⟨c, by rw [getC_snoc f2, if_neg hne]; exact hc, rfl, rfl, id⟩
  exact {
    len := by simpa [Ch.upd, Ch.tell] using h.len
    pg := fun k hk => by
      rw [e]
      split
      · have := (h.pg i hi).put x
        rwa [g1] at this
      · exact h.pg k hk
    le := fun k hk => by
      rw [e]
      split
      · intro t c hc
        rw [getC_snoc f1] at hc
        split at hc
        · rename_i ht
          injection hc with hc
          subst hc
          exact ⟨x, by rw [getC_snoc f2, if_pos ht], rfl, rfl, id⟩
        · exact (h.le i hi).trans hZ t c hc
      · exact (h.le k hk).trans hZ
    msg := fun a b ha hb hab m hm c hc => by
      have hk : Kept (C.pg a) (((C.upd i (putS (C.pg i) x).1).tell i x).pg a) := by
        rw [e]
        split
        · rename_i ea
          rw [ea]
          have := Kept.put (L := C.pg i) x
          rwa [g1] at this
        · exact Kept.refl _
      rcases tell_mem hm with hm | ⟨ha', hm⟩
      · exact hk.in1 (h.msg a b ha hb hab m hm c hc)
      · rw [hm] at hc
        rw [List.mem_singleton.1 hc, e, if_pos ha']
        exact ⟨x, by rw [getC_snoc f1, if_pos rfl], rfl, rfl, id⟩
    own := fun d hd => by
      rcases List.mem_append.1 hd with hd | hd
      · obtain ⟨j, hj, k1, k2⟩ := h.own d hd
        refine ⟨j, hj, k1, ?_⟩
        rw [e]
        split
        · rename_i ej
          subst ej
          rw [getC_snoc f1, if_neg (fun e' => by rw [e', f1] at k2; cases k2)]
          exact k2
        · exact k2
      · rw [List.mem_singleton.1 hd]
        exact ⟨i, hi, hx, by rw [e, if_pos rfl, getC_snoc f1, if_pos rfl]⟩
    uq := uq_snoc h.uq f2 }
theorem Inv.withdraw {Z : List Cl} {n i : Nat} {C : Ch} (h : Inv Z n C) (hi : i < n) (t : St2) :
    ((withdrawS C i t).2 ≠ 0 → (withdrawS C i t).1 = C) ∧ ((withdrawS C i t).2 = 0 → t.1 = (i : Int) ∧ ∃ c, getC Z t = some c ∧ Inv (setC Z (goneC c)) n (withdrawS C i t).1) := by
  unfold withdrawS
  split
  · exact ⟨fun _ => rfl, fun e => by cases e⟩
  rename_i ht
  have ht : t.1 = (i : Int) := by simpa using ht
  split
  · exact ⟨fun _ => rfl, fun e => by cases e⟩
  rename_i c hc
  refine ⟨fun e => absurd rfl e, fun _ => ⟨ht, c, h.of_page hi hc ht, ?_⟩⟩
  have hcZ := h.of_page hi hc ht
  have hid : c.id = t := (getC_mem hc).2
  have hg : (goneC c).id = t := hid
  have hd : (dropS (C.pg i) t).1 = setC (C.pg i) (goneC c) := by
    unfold dropS
    rw [hc]
    rfl
  have hil : i < C.pages.length := by rw [h.len]; exact hi
  have e : ∀ k, ((C.upd i (dropS (C.pg i) t).1).tell i (goneC c)).pg k = if k = i then setC (C.pg i) (goneC c) else C.pg k := fun k => by
    rw [pg_tell, pg_upd hil, hd]
  have hZ : Kept Z (setC Z (goneC c)) := Kept.set (x := goneC c) (old := c) (by rw [hg]; exact hcZ) rfl rfl fun _ => rfl
  have hS : ∀ {L : List Cl}, getC L t = some c → getC (setC L (goneC c)) t = some (goneC c) := fun {L} hL => by
    rw [getC_set, if_pos hg.symm, hL]; rfl
  exact {
    len := by simpa [Ch.upd, Ch.tell] using h.len
    pg := fun k hk => by
      rw [e]
      split
      · have := (h.pg i hi).drop t
        rwa [hd] at this
      · exact h.pg k hk
    le := fun k hk => by
      rw [e]
      split
      · intro s x hx
        by_cases hs : s = t
        · rw [hs, hS hc] at hx
          injection hx with hx
          subst hx
          exact ⟨goneC c, by rw [hs, hS hcZ], rfl, rfl, id⟩
        · rw [getC_set, if_neg (by rw [hg]; exact hs)] at hx
          obtain ⟨d, k1, k2⟩ := h.le i hi s x hx
          exact ⟨d, by rw [getC_set, if_neg (by rw [hg]; exact hs)]; exact k1, k2⟩
      · exact (h.le k hk).trans hZ
    msg := fun a b ha hb hab m hm x hx => by
      have hk : Kept (C.pg a) (((C.upd i (dropS (C.pg i) t).1).tell i (goneC c)).pg a) := by
        rw [e]
        split
        · rename_i ea
          rw [ea]
          have := Kept.drop (L := C.pg i) t
          rwa [hd] at this
        · exact Kept.refl _
      rcases tell_mem hm with hm | ⟨ha', hm⟩
      · exact hk.in1 (h.msg a b ha hb hab m hm x hx)
      · rw [hm] at hx
        rw [List.mem_singleton.1 hx, e, if_pos ha']
        exact ⟨goneC c, by rw [hg]; exact hS hc, rfl, rfl, id⟩
    own := fun d hd => by
      by_cases hs : d.id = t
      · have h1 := getC_of (setC_uq h.uq (goneC c)) hd
        rw [hs, hS hcZ] at h1
        injection h1 with h1
        subst h1
        exact ⟨i, hi, by rw [hg]; exact ht, by rw [e, if_pos rfl, hg]; exact hS hc⟩
      · rcases mem_set hd with hd | ⟨rfl, _⟩
        · obtain ⟨j, hj, k1, k2⟩ := h.own d hd
          refine ⟨j, hj, k1, ?_⟩
          rw [e]
          split
          · rename_i ej
            subst ej
            rw [getC_set, if_neg (by rw [hg]; exact hs)]
            exact k2
          · exact k2
        · exact absurd hg hs
    uq := setC_uq h.uq _ }
end Go.Proofs.Ytaicbllfkehhjaa

/- All that there is has been sent and delivered, twice: every page is what was proposed. Plain words. -/
namespace Go.Proofs.Ytaicbllfkehhjaa

def drainS : Nat → Ch → Nat → Nat → Ch
  | 0, C, _, _ => C
  | f + 1, C, a, b => if (deliverS C a b false).2 = true then drainS f (deliverS C a b false).1 a b else C
def allP (n : Nat) : List (Nat × Nat) := (List.range n).flatMap fun a => (List.range n).map fun b => (a, b)
def againsS (n : Nat) (C : Ch) : Ch := (allP n).foldl (fun C p => (againS C p.1 p.2).1) C
def drainsS (n : Nat) (C : Ch) : Ch := (allP n).foldl (fun C p => drainS 200 C p.1 p.2) C
def roundS (n : Nat) (C : Ch) : Ch := drainsS n (againsS n C)
def finishS (n : Nat) (C : Ch) : Ch := roundS n (roundS n C)

theorem allP_mem {n : Nat} {p : Nat × Nat} : p ∈ allP n ↔ p.1 < n ∧ p.2 < n := by
  simp only [allP, List.mem_flatMap, List.mem_map, List.mem_range]
  constructor
  · rintro ⟨a, ha, b, hb, rfl⟩
    exact ⟨ha, hb⟩
  · rintro ⟨h1, h2⟩
    exact ⟨p.1, h1, p.2, h2, rfl⟩
theorem allP_nodup (n : Nat) : (allP n).Nodup := by
  unfold allP
  rw [List.flatMap_def]
  refine List.pairwise_flatten.2 ⟨fun l hl => ?_, ?_⟩
  · obtain ⟨a, _, rfl⟩ := List.mem_map.1 hl
    exact List.pairwise_map.2 (List.nodup_range.imp fun h e => h (Prod.ext_iff.1 e).2)
  · refine List.pairwise_map.2 (List.nodup_range.imp fun {x y} h => ?_)
    intro p h1 q h2 e
    obtain ⟨_, _, rfl⟩ := List.mem_map.1 h1
    obtain ⟨_, _, rfl⟩ := List.mem_map.1 h2
    exact h (Prod.ext_iff.1 e).1

theorem deliver_nil {C : Ch} {a b : Nat} (h : C.lines a b = []) : deliverS C a b false = (C, false) := by
  unfold deliverS
  split
  · rfl
  · rw [h]
theorem deliver_self (C : Ch) (a : Nat) : deliverS C a a false = (C, false) := by
  unfold deliverS
  rw [if_pos rfl]
theorem deliver_cons {C : Ch} {a b : Nat} {m : List Cl} {q : List (List Cl)} (hab : a ≠ b) (h : C.lines a b = m :: q) :
    (deliverS C a b false).2 = true ∧ (deliverS C a b false).1.lines a b = q ∧ (∀ i k, ¬ (i = a ∧ k = b) → (deliverS C a b false).1.lines i k = C.lines i k) ∧
      (b < C.pages.length → (deliverS C a b false).1.pg b = putAll (C.pg b) m) := by
  unfold deliverS
  rw [if_neg hab, h]
  refine ⟨rfl, ?_, fun i k hik => ?_, fun hb => ?_⟩
  · show (if a = a ∧ b = b then q else _) = q
    rw [if_pos ⟨rfl, rfl⟩]
  · show (if i = a ∧ k = b then q else _) = _
    rw [if_neg hik]
  · show (C.upd b (putAll (C.pg b) m)).pg b = _
    rw [pg_upd hb, if_pos rfl]

theorem drain_spec {Z : List Cl} {n a b : Nat} (ha : a < n) (hb : b < n) (hab : a ≠ b) (hz : Z.length ≤ 64) : ∀ (f : Nat) (C : Ch), Inv Z n C → (C.lines a b).length ≤ f →
    Inv Z n (drainS f C a b) ∧ (∀ k, Kept (C.pg k) ((drainS f C a b).pg k)) ∧ (∀ i k, ¬ (i = a ∧ k = b) → (drainS f C a b).lines i k = C.lines i k) ∧ (drainS f C a b).lines a b = [] ∧
      ∀ pre M, C.lines a b = pre ++ [walkS M] → Pg M → Kept M Z → Kept M ((drainS f C a b).pg b)
  | 0, C, h, hl => by
    have h0 : C.lines a b = [] := List.eq_nil_of_length_eq_zero (by omega)
    refine ⟨h, fun _ => Kept.refl _, fun _ _ _ => rfl, h0, fun pre M e => ?_⟩
    rw [h0] at e
    simp at e
  | f + 1, C, h, hl => by
    cases hq : C.lines a b with
    | nil =>
      have e : drainS (f + 1) C a b = C := by
        unfold drainS
        rw [deliver_nil hq]
        rfl
      rw [e]
      refine ⟨h, fun _ => Kept.refl _, fun _ _ _ => rfl, hq, fun pre M e => ?_⟩
      simp at e
    | cons m q =>
      obtain ⟨d1, d2, d3, d4⟩ := deliver_cons hab hq
      have e : drainS (f + 1) C a b = drainS f (deliverS C a b false).1 a b := by
        conv => lhs; unfold drainS
        rw [if_pos d1]
      rw [e]
      have hk := fun k => deliver_kept (C := C) (a := a) (b := b) (by rw [h.len]; exact hb) false k
      have hD := h.deliver ha hb false
      have d5 := d4 (by rw [h.len]; exact hb)
      generalize (deliverS C a b false).1 = D at *
      rw [hq, List.length_cons] at hl
      obtain ⟨i1, i2, i3, i4, i5⟩ := drain_spec ha hb hab hz f D hD (by rw [d2]; omega)
      refine ⟨i1, fun k => (hk k).trans (i2 k), fun i k hik => (i3 i k hik).trans (d3 i k hik), i4, fun pre M hs hM hMZ => ?_⟩
      cases pre with
      | nil =>
        simp only [List.nil_append, List.cons.injEq] at hs
        have : Kept M (D.pg b) := Kept.of_mem fun c hc => by
          rw [d5, hs.1]
          exact put_walk hM hMZ hz (walkS M) [] (C.pg b) rfl (h.pg b hb) (h.le b hb) (fun _ hc => by cases hc) c ((walk_perm hM.tr).mem_iff.2 hc)
        exact this.trans (i2 b)
      | cons x pre =>
        simp only [List.cons_append, List.cons.injEq] at hs
        exact i5 pre M (d2.trans hs.2) hM hMZ
theorem drain_self (f : Nat) (C : Ch) (a : Nat) : drainS f C a a = C := by
  cases f with
  | zero => rfl
  | succ f => unfold drainS; rw [deliver_self]; rfl

theorem drains_spec {Z : List Cl} {n : Nat} {Ms : Nat → List Cl} (hz : Z.length ≤ 64) (hM : ∀ i, i < n → Pg (Ms i) ∧ Kept (Ms i) Z) : ∀ (ps : List (Nat × Nat)) (C : Ch), ps.Nodup → (∀ p ∈ ps, p.1 < n ∧ p.2 < n) → Inv Z n C →
    (∀ p ∈ ps, p.1 ≠ p.2 → (C.lines p.1 p.2).length ≤ 200 ∧ ∃ pre, C.lines p.1 p.2 = pre ++ [walkS (Ms p.1)]) →
    Inv Z n (ps.foldl (fun C p => drainS 200 C p.1 p.2) C) ∧ (∀ k, Kept (C.pg k) ((ps.foldl (fun C p => drainS 200 C p.1 p.2) C).pg k)) ∧
      (∀ i k, ((ps.foldl (fun C p => drainS 200 C p.1 p.2) C).lines i k).length ≤ (C.lines i k).length) ∧
      (∀ p ∈ ps, p.1 ≠ p.2 → Kept (Ms p.1) ((ps.foldl (fun C p => drainS 200 C p.1 p.2) C).pg p.2)) ∧ ∀ p ∈ ps, p.1 ≠ p.2 → (ps.foldl (fun C p => drainS 200 C p.1 p.2) C).lines p.1 p.2 = []
  | [], C, _, _, h, _ => ⟨h, fun _ => Kept.refl _, fun _ _ => Nat.le_refl _, fun _ hp => (List.not_mem_nil hp).elim, fun _ hp => (List.not_mem_nil hp).elim⟩
  | p :: ps, C, hn, hv, h, hl => by
    rw [List.foldl_cons]
    have hn' := List.nodup_cons.1 hn
    have hv' : ∀ q ∈ ps, q.1 < n ∧ q.2 < n := fun q hq => hv q (List.mem_cons_of_mem _ hq)
    by_cases hp : p.1 = p.2
    · have e : drainS 200 C p.1 p.2 = C := by rw [← hp]; exact drain_self 200 C p.1
      rw [e]
      obtain ⟨i1, i2, i3, i4, i5⟩ := drains_spec hz hM ps C hn'.2 hv' h fun q hq => hl q (List.mem_cons_of_mem _ hq)
      refine ⟨i1, i2, i3, fun q hq hne => ?_, fun q hq hne => ?_⟩
      · rcases List.mem_cons.1 hq with rfl | hq
        · exact absurd hp hne
        · exact i4 q hq hne
      · rcases List.mem_cons.1 hq with rfl | hq
        · exact absurd hp hne
        · exact i5 q hq hne
    · obtain ⟨l1, pre, l2⟩ := hl p List.mem_cons_self hp
      obtain ⟨hp1, hp2⟩ := hv p List.mem_cons_self
      obtain ⟨d1, d2, d3, d4, d5⟩ := drain_spec hp1 hp2 hp hz 200 C h l1
      have d6 := d5 pre (Ms p.1) l2 (hM p.1 hp1).1 (hM p.1 hp1).2
      generalize drainS 200 C p.1 p.2 = D at *
      have other : ∀ q ∈ ps, ¬ (q.1 = p.1 ∧ q.2 = p.2) := fun q hq e => hn'.1 (by rw [show p = q from Prod.ext e.1.symm e.2.symm]; exact hq)
      obtain ⟨i1, i2, i3, i4, i5⟩ := drains_spec hz hM ps D hn'.2 hv' d1 fun q hq hne => by
        rw [d3 q.1 q.2 (other q hq)]
        exact hl q (List.mem_cons_of_mem _ hq) hne
      refine ⟨i1, fun k => (d2 k).trans (i2 k), fun i k => Nat.le_trans (i3 i k) ?_, fun q hq hne => ?_, fun q hq hne => ?_⟩
      · by_cases e : i = p.1 ∧ k = p.2
        · rw [e.1, e.2, d4]
          exact Nat.zero_le _
        · rw [d3 i k e]
          exact Nat.le_refl _
      · rcases List.mem_cons.1 hq with rfl | hq
        · exact d6.trans (i2 _)
        · exact i4 q hq hne
      · rcases List.mem_cons.1 hq with rfl | hq
        · have := i3 q.1 q.2
          rw [d4] at this
          exact List.eq_nil_of_length_eq_zero (Nat.le_zero.1 this)
        · exact i5 q hq hne

theorem again_pg (C : Ch) (a b k : Nat) : (againS C a b).1.pg k = C.pg k := by
  unfold againS
  split <;> rfl
theorem again_lines {C : Ch} {a b : Nat} (hab : a ≠ b) (i k : Nat) : (againS C a b).1.lines i k = if i = a ∧ k = b then C.lines a b ++ [walkS (C.pg a)] else C.lines i k := by
  unfold againS
  rw [if_neg hab]
  show (if i = a ∧ k = b then C.lines i k ++ [walkS (C.pg a)] else C.lines i k) = _
  split
  · rename_i e
    rw [e.1, e.2]
  · rfl
theorem again_self (C : Ch) (a : Nat) : (againS C a a).1 = C := by
  unfold againS
  rw [if_pos rfl]
theorem agains_spec {Z : List Cl} {n : Nat} : ∀ (ps : List (Nat × Nat)) (C : Ch), ps.Nodup → (∀ p ∈ ps, p.1 < n) → Inv Z n C →
    Inv Z n (ps.foldl (fun C p => (againS C p.1 p.2).1) C) ∧ (∀ k, (ps.foldl (fun C p => (againS C p.1 p.2).1) C).pg k = C.pg k) ∧
      ∀ i k, (ps.foldl (fun C p => (againS C p.1 p.2).1) C).lines i k = if (i, k) ∈ ps ∧ i ≠ k then C.lines i k ++ [walkS (C.pg i)] else C.lines i k
  | [], C, _, _, h => ⟨h, fun _ => rfl, fun i k => by rw [if_neg (by simp)]; rfl⟩
  | p :: ps, C, hn, hv, h => by
    rw [List.foldl_cons]
    have hn' := List.nodup_cons.1 hn
    obtain ⟨i1, i2, i3⟩ := agains_spec ps (againS C p.1 p.2).1 hn'.2 (fun q hq => hv q (List.mem_cons_of_mem _ hq)) (h.again (hv p List.mem_cons_self))
    refine ⟨i1, fun k => (i2 k).trans (again_pg C _ _ k), fun i k => ?_⟩
    rw [i3 i k, again_pg]
    by_cases hp : p.1 = p.2
    · have e1 : (againS C p.1 p.2).1 = C := by rw [← hp]; exact again_self C p.1
      rw [e1]
      by_cases hik : i = k
      · rw [if_neg (fun h => h.2 hik), if_neg (fun h => h.2 hik)]
      · have : (i, k) ∈ p :: ps ↔ (i, k) ∈ ps := by
          rw [List.mem_cons]
          refine ⟨fun h => h.elim (fun e => absurd (by rw [← e] at hp; exact hp) hik) id, .inr⟩
        simp only [this]
    · rw [again_lines hp]
      by_cases e : i = p.1 ∧ k = p.2
      · have hpe : (i, k) = p := Prod.ext e.1 e.2
        have h1 : ¬ ((i, k) ∈ ps ∧ i ≠ k) := fun h => hn'.1 (hpe ▸ h.1)
        have h2 : (i, k) ∈ p :: ps ∧ i ≠ k := ⟨by rw [hpe]; exact List.mem_cons_self, by rw [e.1, e.2]; exact hp⟩
        rw [if_neg h1, if_pos h2, if_pos e, e.1, e.2]
      · have hpe : (i, k) ≠ p := fun h => e ⟨congrArg Prod.fst h, congrArg Prod.snd h⟩
        simp only [if_neg e, List.mem_cons, hpe, false_or]

theorem round_spec {Z : List Cl} {n K : Nat} {C : Ch} (hz : Z.length ≤ 64) (h : Inv Z n C) (hK : ∀ i k, (C.lines i k).length ≤ K) (hK2 : K ≤ 199) :
    Inv Z n (roundS n C) ∧ (∀ k, Kept (C.pg k) ((roundS n C).pg k)) ∧ (∀ i k, ((roundS n C).lines i k).length ≤ K + 1) ∧ (∀ b, b < n → Kept Z ((roundS n C).pg b)) ∧ ∀ i k, i < n → k < n → i ≠ k → (roundS n C).lines i k = [] := by
  obtain ⟨a1, a2, a3⟩ := agains_spec (allP n) C (allP_nodup n) (fun p hp => (allP_mem.1 hp).1) h
  have hlen : ∀ i k, ((againsS n C).lines i k).length ≤ K + 1 := fun i k => by
    have h1 := hK i k
    unfold againsS
    rw [a3]
    split
    · rw [List.length_append]; simpa using h1
    · omega
  obtain ⟨d1, d2, d3, d4, d5⟩ := drains_spec (Ms := C.pg) hz (fun i hi => ⟨h.pg i hi, h.le i hi⟩) (allP n) (againsS n C) (allP_nodup n) (fun p hp => allP_mem.1 hp) a1 fun p hp hne => by
    refine ⟨Nat.le_trans (hlen _ _) (by omega), C.lines p.1 p.2, ?_⟩
    unfold againsS
    rw [a3, if_pos ⟨hp, hne⟩]
  refine ⟨d1, fun k => ?_, fun i k => Nat.le_trans (d3 i k) (hlen i k), fun b hb => Kept.of_mem fun c hc => ?_, fun i k hi hk hne => d5 (i, k) (allP_mem.2 ⟨hi, hk⟩) hne⟩
  · have := d2 k
    unfold againsS at this
    rw [a2 k] at this
    exact this
  · obtain ⟨i, hi, k1, k2⟩ := h.own c hc
    have hin : In1 (C.pg i) c := ⟨c, k2, rfl, rfl, id⟩
    by_cases hib : i = b
    · subst hib
      have := d2 i
      unfold againsS at this
      rw [a2 i] at this
      exact this.in1 hin
    · exact (d4 (i, b) (allP_mem.2 ⟨hi, hb⟩) hib).in1 hin
theorem finish_spec {Z : List Cl} {n K : Nat} {C : Ch} (hz : Z.length ≤ 64) (h : Inv Z n C) (hK : ∀ i k, (C.lines i k).length ≤ K) (hK2 : K ≤ 198) :
    Inv Z n (finishS n C) ∧ (∀ b, b < n → ((finishS n C).pg b).Perm Z) ∧ ∀ i k, i < n → k < n → i ≠ k → (finishS n C).lines i k = [] := by
  obtain ⟨a1, a2, a3, a4, _⟩ := round_spec hz h hK (by omega)
  obtain ⟨b1, b2, b3, b4, b5⟩ := round_spec hz a1 a3 (by omega)
  exact ⟨b1, fun b hb => kept_both (b1.pg b hb).uq b1.uq (b1.le b hb) (b4 b hb), b5⟩
theorem finish_walk {Z : List Cl} {n b : Nat} {D : Ch} (h : Inv Z n D) (hp : (D.pg b).Perm Z) : walkS (D.pg b) = walkS Z := (walkS_perm h.uq hp.symm).symm
end Go.Proofs.Ytaicbllfkehhjaa

/- A chamber that the laws make, in plain words: what finish wants. -/
namespace Go.Proofs.Ytaicbllfkehhjaa

/-- What the laws know of a chamber: the invariant, and that messages are not great. -/
structure Gd (Z : List Cl) (n : Nat) (C : Ch) : Prop where
  inv : Inv Z n C
  few : Z.length ≤ 64
  small : ∀ i k m, m ∈ C.lines i k → m.length ≤ 100000
def LB (K : Nat) (C : Ch) : Prop := ∀ i k, (C.lines i k).length ≤ K
theorem LB.mono {K K' : Nat} {C : Ch} (h : LB K C) (hk : K ≤ K') : LB K' C := fun i k => Nat.le_trans (h i k) hk
theorem Gd.pages {Z : List Cl} {n : Nat} {C : Ch} (h : Gd Z n C) {i : Nat} (hi : i < n) : Pg (C.pg i) ∧ (C.pg i).length ≤ 64 :=
  ⟨h.inv.pg i hi, Nat.le_trans (kept_len (h.inv.pg i hi).uq (h.inv.le i hi)) h.few⟩
theorem again_mem {C : Ch} {a b i k : Nat} {m : List Cl} (h : m ∈ (againS C a b).1.lines i k) : m ∈ C.lines i k ∨ m = walkS (C.pg a) := by
  by_cases hab : a = b
  · subst hab
    rw [again_self] at h
    exact .inl h
  · rw [again_lines hab] at h
    split at h
    · rename_i e
      obtain ⟨rfl, rfl⟩ := e
      rcases List.mem_append.1 h with h | h
      · exact .inl h
      · exact .inr (by simpa using h)
    · exact .inl h
theorem Gd.again {Z : List Cl} {n a b : Nat} {C : Ch} (h : Gd Z n C) (ha : a < n) : Gd Z n (againS C a b).1 where
  inv := h.inv.again ha
  few := h.few
  small := fun i k m hm => by
    rcases again_mem hm with hm | rfl
    · exact h.small i k m hm
    · rw [(walk_perm (h.inv.pg a ha).tr).length_eq]
      have := (h.pages ha).2
      omega
theorem LB.again {K a b : Nat} {C : Ch} (h : LB K C) : LB (K + 1) (againS C a b).1 := fun i k => by
  have h1 := h i k
  by_cases hab : a = b
  · subst hab
    rw [again_self]
    omega
  · rw [again_lines hab]
    split
    · rename_i e
      obtain ⟨rfl, rfl⟩ := e
      simp
      omega
    · omega
theorem deliver_lines (C : Ch) (a b : Nat) (l : Bool) (i k : Nat) : (deliverS C a b l).1.lines i k = C.lines i k ∨ ∃ m, C.lines i k = m :: (deliverS C a b l).1.lines i k := by
  unfold deliverS
  split
  · exact .inl rfl
  · split
    · exact .inl rfl
    · rename_i m q hq
      by_cases e : i = a ∧ k = b
      · obtain ⟨rfl, rfl⟩ := e
        refine .inr ⟨m, ?_⟩
        rw [hq]
        cases l <;> simp
      · refine .inl ?_
        cases l <;> simp [e]
theorem Gd.deliver {Z : List Cl} {n a b : Nat} {C : Ch} (h : Gd Z n C) (ha : a < n) (hb : b < n) (l : Bool) : Gd Z n (deliverS C a b l).1 where
  inv := h.inv.deliver ha hb l
  few := h.few
  small := fun i k m hm => by
    rcases deliver_lines C a b l i k with e | ⟨x, e⟩
    · exact h.small i k m (e ▸ hm)
    · exact h.small i k m (by rw [e]; exact List.mem_cons_of_mem _ hm)
theorem LB.deliver {K a b : Nat} {C : Ch} (h : LB K C) (l : Bool) : LB K (deliverS C a b l).1 := fun i k => by
  have h1 := h i k
  rcases deliver_lines C a b l i k with e | ⟨x, e⟩
  · rw [e]
    exact h1
  · rw [e, List.length_cons] at h1
    omega
theorem deliver_false {C : Ch} {a b : Nat} {l : Bool} (h : (deliverS C a b l).2 = false) : (deliverS C a b l).1 = C := by
  unfold deliverS at h ⊢
  split
  · rfl
  · rename_i hab
    rw [if_neg hab] at h
    split
    · rfl
    · rename_i m q hq
      rw [hq] at h
      cases h
def foldA (ps : List (Nat × Nat)) (C : Ch) : Ch := ps.foldl (fun C p => (againS C p.1 p.2).1) C
def foldD (ps : List (Nat × Nat)) (C : Ch) : Ch := ps.foldl (fun C p => drainS 200 C p.1 p.2) C
theorem foldA_gd {Z : List Cl} {n : Nat} : ∀ (ps : List (Nat × Nat)) (C : Ch) (K : Nat), (∀ p ∈ ps, p.1 < n) → Gd Z n C → LB K C → Gd Z n (foldA ps C) ∧ LB (K + ps.length) (foldA ps C)
  | [], _, _, _, h, k => ⟨h, k⟩
  | p :: ps, C, K, hp, h, k => by
    obtain ⟨h1, h2⟩ := foldA_gd ps (againS C p.1 p.2).1 (K + 1) (fun x hx => hp x (List.mem_cons_of_mem _ hx)) (h.again (hp p List.mem_cons_self)) k.again
    exact ⟨h1, h2.mono (by rw [List.length_cons]; omega)⟩
theorem drainS_gd {Z : List Cl} {n K a b : Nat} (ha : a < n) (hb : b < n) : ∀ (f : Nat) (C : Ch), Gd Z n C → LB K C → Gd Z n (drainS f C a b) ∧ LB K (drainS f C a b)
  | 0, _, h, k => ⟨h, k⟩
  | f + 1, C, h, k => by
    unfold drainS
    split
    · exact drainS_gd ha hb f _ (h.deliver ha hb false) (k.deliver false)
    · exact ⟨h, k⟩
theorem foldD_gd {Z : List Cl} {n K : Nat} : ∀ (ps : List (Nat × Nat)) (C : Ch), (∀ p ∈ ps, p.1 < n ∧ p.2 < n) → Gd Z n C → LB K C → Gd Z n (foldD ps C) ∧ LB K (foldD ps C)
  | [], _, _, h, k => ⟨h, k⟩
  | p :: ps, C, hp, h, k => by
    obtain ⟨h1, h2⟩ := drainS_gd (hp p List.mem_cons_self).1 (hp p List.mem_cons_self).2 200 C h k
    exact foldD_gd ps _ (fun x hx => hp x (List.mem_cons_of_mem _ hx)) h1 h2
theorem sum_const (n : Nat) : ∀ l : List Nat, (l.map fun _ => n).sum = l.length * n
  | [] => by simp
  | x :: l => by
    rw [List.map_cons, List.sum_cons, sum_const n l, List.length_cons, Nat.succ_mul]
    omega
theorem allP_len (n : Nat) : (allP n).length = n * n := by
  unfold allP
  rw [List.length_flatMap]
  simp only [List.length_map, List.length_range]
  rw [sum_const, List.length_range]
theorem pairs_at {n : Nat} : ∀ {l : List Nat} {i b a : Nat}, l[i]? = some a → b < n → (l.flatMap fun a => (List.range n).map fun b => (a, b))[i * n + b]? = some (a, b)
  | [], i, b, a, h, _ => by simp at h
  | x :: l, 0, b, a, h, hb => by
    simp at h
    subst h
    rw [List.flatMap_cons, Nat.zero_mul, Nat.zero_add, List.getElem?_append_left (by simpa using hb)]
    simp [hb]
  | x :: l, i + 1, b, a, h, hb => by
    have ih := pairs_at (l := l) (i := i) (b := b) (by simpa using h) hb
    have e : (i + 1) * n + b = n + (i * n + b) := by rw [Nat.succ_mul]; omega
    rw [List.flatMap_cons, e, List.getElem?_append_right (by simp)]
    simpa using ih
theorem allP_at {n a b : Nat} (ha : a < n) (hb : b < n) : (allP n)[a * n + b]? = some (a, b) := pairs_at (by rw [List.getElem?_range ha]) hb
theorem take_in {n j : Nat} {p : Nat × Nat} (h : p ∈ (allP n).take j) : p.1 < n ∧ p.2 < n := allP_mem.1 (List.mem_of_mem_take h)
theorem foldA_step {n a b : Nat} (ha : a < n) (hb : b < n) (C : Ch) : foldA ((allP n).take (a * n + (b + 1))) C = (againS (foldA ((allP n).take (a * n + b)) C) a b).1 := by
  unfold foldA
  rw [← Nat.add_assoc, List.take_add_one, allP_at ha hb]
  simp [List.foldl_append]
theorem foldD_step {n a b : Nat} (ha : a < n) (hb : b < n) (C : Ch) : foldD ((allP n).take (a * n + (b + 1))) C = drainS 200 (foldD ((allP n).take (a * n + b)) C) a b := by
  unfold foldD
  rw [← Nat.add_assoc, List.take_add_one, allP_at ha hb]
  simp [List.foldl_append]
def rndS (n : Nat) : Nat → Ch → Ch
  | 0, C => C
  | r + 1, C => roundS n (rndS n r C)
theorem round_fold (n : Nat) (C : Ch) : roundS n C = foldD ((allP n).take (n * n)) (foldA ((allP n).take (n * n)) C) := by
  rw [List.take_of_length_le (by rw [allP_len]; exact Nat.le_refl _)]
  rfl
theorem rnd_gd {Z : List Cl} {n : Nat} (hn : n ≤ 5) : ∀ (r : Nat) (C : Ch) (K : Nat), Gd Z n C → LB K C → Gd Z n (rndS n r C) ∧ LB (K + r * 25) (rndS n r C)
  | 0, _, _, h, k => ⟨h, by rw [Nat.zero_mul]; exact k⟩
  | r + 1, C, K, h, k => by
    obtain ⟨h1, h2⟩ := rnd_gd hn r C K h k
    have hnn : n * n ≤ 25 := Nat.mul_le_mul hn hn
    obtain ⟨h3, h4⟩ := foldA_gd ((allP n).take (n * n)) _ _ (fun p hp => (take_in hp).1) h1 h2
    obtain ⟨h5, h6⟩ := foldD_gd ((allP n).take (n * n)) _ (fun p hp => take_in hp) h3 h4
    show Gd Z n (roundS n _) ∧ _
    rw [show rndS n (r + 1) C = roundS n (rndS n r C) from rfl, round_fold]
    refine ⟨h5, h6.mono ?_⟩
    rw [List.length_take, Nat.succ_mul]
    omega
theorem finish_rnd (n : Nat) (C : Ch) : finishS n C = rndS n 2 C := rfl
theorem Gd.new (n : Nat) : Gd [] n (newS n) := ⟨Inv.new n, by simp, fun i k m hm => by cases hm⟩
theorem LB.new (n : Nat) : LB 0 (newS n) := fun _ _ => Nat.le_refl _
end Go.Proofs.Ytaicbllfkehhjaa

/- A chamber that the laws make, in plain words: proposals and withdrawals. -/
namespace Go.Proofs.Ytaicbllfkehhjaa

theorem LB.tell {K : Nat} {C : Ch} (h : LB K C) (i : Nat) (x : Cl) : LB (K + 1) (C.tell i x) := fun a b => by
  have h1 := h a b
  show (if a = i ∧ b ≠ i ∧ b < C.pages.length then C.lines a b ++ [[x]] else C.lines a b).length ≤ K + 1
  split
  · simp
    omega
  · omega
theorem LB.upd {K : Nat} {C : Ch} (h : LB K C) (i : Nat) (L : List Cl) : LB K (C.upd i L) := h
theorem LB.propose {K : Nat} {C : Ch} (h : LB K C) (i : Nat) (t : St2) (p : Pt) : LB (K + 1) (proposeS C i t p).1 := by
  unfold proposeS
  have h0 := h.mono (Nat.le_succ K)
  split
  · exact h0
  · split
    · exact h0
    · split
      · exact h0
      · exact (h.upd i _).tell i _
theorem LB.withdraw {K : Nat} {C : Ch} (h : LB K C) (i : Nat) (t : St2) : LB (K + 1) (withdrawS C i t).1 := by
  unfold withdrawS
  have h0 := h.mono (Nat.le_succ K)
  split
  · exact h0
  · split
    · exact h0
    · exact (h.upd i _).tell i _
theorem propose_mem {C : Ch} {i : Nat} {t : St2} {p : Pt} {a b : Nat} {m : List Cl} (h : m ∈ (proposeS C i t p).1.lines a b) : m ∈ C.lines a b ∨ ∃ x, m = [x] := by
  unfold proposeS at h
  split at h
  · exact .inl h
  · split at h
    · exact .inl h
    · split at h
      · exact .inl h
      · rcases tell_mem h with h | ⟨_, h⟩
        · exact .inl h
        · exact .inr ⟨_, h⟩
theorem withdraw_mem {C : Ch} {i : Nat} {t : St2} {a b : Nat} {m : List Cl} (h : m ∈ (withdrawS C i t).1.lines a b) : m ∈ C.lines a b ∨ ∃ x, m = [x] := by
  unfold withdrawS at h
  split at h
  · exact .inl h
  · split at h
    · exact .inl h
    · rcases tell_mem h with h | ⟨_, h⟩
      · exact .inl h
      · exact .inr ⟨_, h⟩
theorem small_of {C D : Ch} (h : ∀ i k m, m ∈ C.lines i k → m.length ≤ 100000) (hm : ∀ {i k m}, m ∈ D.lines i k → m ∈ C.lines i k ∨ ∃ x, m = [x]) : ∀ i k m, m ∈ D.lines i k → m.length ≤ 100000 := fun i k m h1 => by
  rcases hm h1 with h1 | ⟨x, rfl⟩
  · exact h i k m h1
  · simp
theorem Gd.propose {Z : List Cl} {n i : Nat} {C : Ch} (h : Gd Z n C) (hi : i < n) (hz : Z.length < 64) (t : St2) (p : Pt) :
    ((proposeS C i t p).2.2 ≠ 0 → (proposeS C i t p).1 = C) ∧ ((proposeS C i t p).2.2 = 0 → (proposeS C i t p).2.1 = (newC i (C.pg i) t p).id ∧ Gd (Z ++ [newC i (C.pg i) t p]) n (proposeS C i t p).1 ∧ getC ((proposeS C i t p).1.pg i) (newC i (C.pg i) t p).id = some (newC i (C.pg i) t p)) := by
  obtain ⟨h1, h2⟩ := h.inv.propose hi t p
  refine ⟨h1, fun e => ?_⟩
  obtain ⟨a1, a2, a3⟩ := h2 e
  exact ⟨a1, ⟨a2, by rw [List.length_append]; simp; omega, small_of h.small propose_mem⟩, a3⟩
theorem Gd.withdraw {Z : List Cl} {n i : Nat} {C : Ch} (h : Gd Z n C) (hi : i < n) (t : St2) :
    ((withdrawS C i t).2 ≠ 0 → (withdrawS C i t).1 = C) ∧ ((withdrawS C i t).2 = 0 → t.1 = (i : Int) ∧ ∃ c, getC Z t = some c ∧ Gd (setC Z (goneC c)) n (withdrawS C i t).1) := by
  obtain ⟨h1, h2⟩ := h.inv.withdraw hi t
  refine ⟨h1, fun e => ?_⟩
  obtain ⟨a1, c, a2, a3⟩ := h2 e
  exact ⟨a1, c, a2, a3, by unfold setC; rw [List.length_map]; exact h.few, small_of h.small withdraw_mem⟩
/-- Good with few clauses and few messages. -/
def Ok (n j : Nat) (C : Ch) : Prop := ∃ Z, Gd Z n C ∧ Z.length ≤ j ∧ LB j C
theorem Ok.new (n : Nat) : Ok n 0 (newS n) := ⟨[], Gd.new n, Nat.le_refl _, LB.new n⟩
theorem Ok.mono {n j j' : Nat} {C : Ch} (h : Ok n j C) (hj : j ≤ j') : Ok n j' C := by
  obtain ⟨Z, h1, h2, h3⟩ := h
  exact ⟨Z, h1, Nat.le_trans h2 hj, h3.mono hj⟩
theorem Ok.propose {n j i : Nat} {C : Ch} (h : Ok n j C) (hi : i < n) (hj : j < 64) (t : St2) (p : Pt) : Ok n (j + 1) (proposeS C i t p).1 := by
  obtain ⟨Z, h1, h2, h3⟩ := h
  obtain ⟨a, b⟩ := h1.propose hi (by omega) t p
  by_cases e : (proposeS C i t p).2.2 = 0
  · exact ⟨_, (b e).2.1, by rw [List.length_append]; simp; omega, h3.propose i t p⟩
  · exact ⟨Z, (a e).symm ▸ h1, by omega, h3.propose i t p⟩
theorem Ok.withdraw {n j i : Nat} {C : Ch} (h : Ok n j C) (hi : i < n) (t : St2) : Ok n (j + 1) (withdrawS C i t).1 := by
  obtain ⟨Z, h1, h2, h3⟩ := h
  obtain ⟨a, b⟩ := h1.withdraw hi t
  by_cases e : (withdrawS C i t).2 = 0
  · obtain ⟨_, c, _, b2⟩ := b e
    exact ⟨_, b2, by unfold setC; rw [List.length_map]; omega, h3.withdraw i t⟩
  · exact ⟨Z, (a e).symm ▸ h1, by omega, h3.withdraw i t⟩
theorem Ok.deliver {n j a b : Nat} {C : Ch} (h : Ok n j C) (ha : a < n) (hb : b < n) (l : Bool) : Ok n j (deliverS C a b l).1 := by
  obtain ⟨Z, h1, h2, h3⟩ := h
  exact ⟨Z, h1.deliver ha hb l, h2, h3.deliver l⟩
theorem Ok.again {n j a b : Nat} {C : Ch} (h : Ok n j C) (ha : a < n) : Ok n (j + 1) (againS C a b).1 := by
  obtain ⟨Z, h1, h2, h3⟩ := h
  exact ⟨Z, h1.again ha, by omega, h3.again⟩
end Go.Proofs.Ytaicbllfkehhjaa

/- The reference's chamber, in plain words: all messages in one list. -/
namespace Go.Proofs.Ytaicbllfkehhjaa

abbrev Msg : Type := Nat × Nat × List Cl
def mine (i k : Nat) (m : Msg) : Bool := decide (m.1 = i) && decide (m.2.1 = k)
def lineOf (ms : List Msg) (i k : Nat) : List (List Cl) := (ms.filter (mine i k)).map (·.2.2)
/-- The messages agree with the lines. -/
structure Agree (C : Ch) (ms : List Msg) : Prop where
  line : ∀ i k, C.lines i k = lineOf ms i k
  oth : ∀ m ∈ ms, m.1 ≠ m.2.1
theorem lineOf_append (a b : List Msg) (i k : Nat) : lineOf (a ++ b) i k = lineOf a i k ++ lineOf b i k := by
  unfold lineOf
  rw [List.filter_append, List.map_append]
theorem lineOf_one (m : Msg) (i k : Nat) : lineOf [m] i k = if m.1 = i ∧ m.2.1 = k then [m.2.2] else [] := by
  unfold lineOf mine
  by_cases h1 : m.1 = i <;> by_cases h2 : m.2.1 = k <;> simp [h1, h2]
theorem Agree.new (n : Nat) : Agree (newS n) [] := ⟨fun _ _ => rfl, fun m hm => by cases hm⟩
theorem Agree.upd {C : Ch} {ms : List Msg} (h : Agree C ms) (i : Nat) (L : List Cl) : Agree (C.upd i L) ms := ⟨h.line, h.oth⟩
theorem Agree.send {C : Ch} {ms : List Msg} (h : Agree C ms) {a b : Nat} (hab : a ≠ b) (m : List Cl) : Agree (C.send a b m) (ms ++ [(a, b, m)]) where
  line := fun i k => by
    rw [lineOf_append, lineOf_one, ← h.line i k]
    show (if i = a ∧ k = b then C.lines i k ++ [m] else C.lines i k) = _
    by_cases e : i = a ∧ k = b
    · rw [if_pos e, if_pos ⟨e.1.symm, e.2.symm⟩]
    · rw [if_neg e, if_neg (fun f => e ⟨f.1.symm, f.2.symm⟩), List.append_nil]
  oth := fun x hx => by
    rcases List.mem_append.1 hx with hx | hx
    · exact h.oth x hx
    · simp only [List.mem_singleton] at hx
      subst hx
      exact hab
/-- What tell has sent once it has looked at the first j seats. -/
def tellM (i : Nat) (x : Cl) : Nat → List Msg → List Msg
  | 0, ms => ms
  | j + 1, ms => if j ≠ i then tellM i x j ms ++ [(i, j, [x])] else tellM i x j ms
theorem tellM_oth {i : Nat} {x : Cl} {ms : List Msg} (h : ∀ m ∈ ms, m.1 ≠ m.2.1) : ∀ j, ∀ m ∈ tellM i x j ms, m.1 ≠ m.2.1
  | 0 => h
  | j + 1 => fun m hm => by
    unfold tellM at hm
    split at hm
    · rename_i hj
      rcases List.mem_append.1 hm with hm | hm
      · exact tellM_oth h j m hm
      · simp only [List.mem_singleton] at hm
        subst hm
        exact fun e => hj e.symm
    · exact tellM_oth h j m hm
theorem tellM_line {i : Nat} {x : Cl} {ms : List Msg} (a b : Nat) : ∀ j, lineOf (tellM i x j ms) a b = if a = i ∧ b ≠ i ∧ b < j then lineOf ms a b ++ [[x]] else lineOf ms a b
  | 0 => by
    rw [if_neg (fun e => Nat.not_lt_zero _ e.2.2)]
    rfl
  | j + 1 => by
    have ih := tellM_line (i := i) (x := x) (ms := ms) a b j
    unfold tellM
    by_cases hj : j ≠ i
    · rw [if_pos hj, lineOf_append, lineOf_one, ih]
      by_cases e : i = a ∧ j = b
      · obtain ⟨rfl, rfl⟩ := e
        rw [if_neg (fun e => Nat.lt_irrefl _ e.2.2), if_pos ⟨rfl, rfl⟩, if_pos ⟨rfl, hj, Nat.lt_succ_self _⟩]
      · rw [if_neg (show ¬ (((i, j, [x]) : Msg).1 = a ∧ ((i, j, [x]) : Msg).2.1 = b) from e), List.append_nil]
        by_cases f : a = i ∧ b ≠ i ∧ b < j
        · rw [if_pos f, if_pos ⟨f.1, f.2.1, by omega⟩]
        · rw [if_neg f, if_neg (fun g => f ⟨g.1, g.2.1, by
            have : j ≠ b := fun q => e ⟨g.1.symm, q⟩
            omega⟩)]
    · rw [if_neg hj, ih]
      have hji : j = i := by omega
      by_cases f : a = i ∧ b ≠ i ∧ b < j
      · rw [if_pos f, if_pos ⟨f.1, f.2.1, by omega⟩]
      · rw [if_neg f, if_neg (fun g => f ⟨g.1, g.2.1, by have := g.2.1; omega⟩)]
theorem Agree.tell {C : Ch} {ms : List Msg} (h : Agree C ms) (i : Nat) (x : Cl) : Agree (C.tell i x) (tellM i x C.pages.length ms) where
  line := fun a b => by
    rw [tellM_line, ← h.line a b]
    rfl
  oth := tellM_oth h.oth _
/-- The first message from a to b: none, or it stands between others. -/
theorem first_mine (a b : Nat) : ∀ (ms : List Msg), (lineOf ms a b = [] ∧ ∀ m ∈ ms, ¬ (m.1 = a ∧ m.2.1 = b)) ∨ ∃ (p : List Msg) (m : List Cl) (q : List Msg), ms = p ++ (a, b, m) :: q ∧ (∀ x ∈ p, ¬ (x.1 = a ∧ x.2.1 = b))
  | [] => .inl ⟨rfl, fun m hm => by cases hm⟩
  | m :: ms => by
    by_cases e : m.1 = a ∧ m.2.1 = b
    · obtain ⟨m1, m2, m3⟩ := m
      obtain ⟨rfl, rfl⟩ := e
      exact .inr ⟨[], m3, ms, rfl, fun x hx => by cases hx⟩
    · rcases first_mine a b ms with ⟨h1, h2⟩ | ⟨p, x, q, rfl, h2⟩
      · refine .inl ⟨?_, fun x hx => ?_⟩
        · rw [show m :: ms = [m] ++ ms from rfl, lineOf_append, lineOf_one, if_neg e, h1]
          rfl
        · rcases List.mem_cons.1 hx with rfl | hx
          · exact e
          · exact h2 x hx
      · refine .inr ⟨m :: p, x, q, rfl, fun y hy => ?_⟩
        rcases List.mem_cons.1 hy with rfl | hy
        · exact e
        · exact h2 y hy
theorem line_none {a b : Nat} {p : List Msg} (h : ∀ x ∈ p, ¬ (x.1 = a ∧ x.2.1 = b)) : lineOf p a b = [] := by
  unfold lineOf
  rw [List.map_eq_nil_iff, List.filter_eq_nil_iff]
  intro x hx
  have := h x hx
  simpa [mine] using this
/-- One message less. -/
theorem Agree.take {C D : Ch} {p q : List Msg} {a b : Nat} {m : List Cl} (h : Agree C (p ++ (a, b, m) :: q)) (hp : ∀ x ∈ p, ¬ (x.1 = a ∧ x.2.1 = b)) (hD : ∀ i k, D.lines i k = if i = a ∧ k = b then (C.lines i k).tail else C.lines i k) : C.lines a b = m :: lineOf q a b ∧ Agree D (p ++ q) := by
  have h1 : ∀ i k, C.lines i k = lineOf p i k ++ ((if a = i ∧ b = k then [m] else []) ++ lineOf q i k) := fun i k => by
    rw [h.line i k, show p ++ (a, b, m) :: q = p ++ ([(a, b, m)] ++ q) from rfl, lineOf_append, lineOf_append, lineOf_one]
  refine ⟨by rw [h1, line_none hp, if_pos ⟨rfl, rfl⟩]; rfl, fun i k => ?_, fun x hx => h.oth x ?_⟩
  · rw [hD, h1, lineOf_append]
    by_cases e : i = a ∧ k = b
    · obtain ⟨rfl, rfl⟩ := e
      rw [if_pos ⟨rfl, rfl⟩, if_pos ⟨rfl, rfl⟩, line_none hp]
      rfl
    · rw [if_neg e, if_neg (fun f => e ⟨f.1.symm, f.2.symm⟩)]
      rfl
  · rcases List.mem_append.1 hx with hx | hx
    · exact List.mem_append_left _ hx
    · exact List.mem_append_right _ (List.mem_cons_of_mem _ hx)
end Go.Proofs.Ytaicbllfkehhjaa

/- The reference: Content, Same, Patches; the law's order. -/
namespace Go.Proofs.Ytaicbllfkehhjaa
open Go.RowKit

theorem load_ptg {ops : Array Oper} {rest : List Oper} {o : Oper} {a : Act} {W : World} {Q : Exit → Act → World → Prop} (hw : Region.wanted o (yielded ops a.tmps) = true) {x : Operand} (ho : o.op = .load 37 x) {g : Nat} {c : Cl} (hx : a.eval x = .pointer (some ⟨g, 4, none⟩))
    (hb : Blk W g 56 (clA c)) (h : wpList Try.prog ops Q rest (a.put o.dst (.agg (ptA c.pt))) W) : wpList Try.prog ops Q (o :: rest) a W := by
  unfold wpList
  rw [if_pos hw]
  refine .inl ?_
  unfold Oper.wp execOp
  simp only [ho, hx, Instr.loadAt, Instr.sureAddr, Sem.run_bind, Sem.run_pure, Result.andThen_ok, pt_load hb]
  exact h
set_option maxRecDepth 100000 in
set_option maxHeartbeats 8000000 in
theorem rContent_any (w : World) (a b : Cl) : Calls Try.prog 52 #[.agg (clA a), .agg (clA b)] w fun e w' => e = .returned (.bool (sameC a b)) ∧ Below w.heap.size w w' := by
  have kA : Blk ((w.alloc (.cells (clA a) 56)).alloc (.cells (clA b) 56)) w.heap.size 56 (clA a) := (Blk.new w _ _).alloc _
  have kB := Blk.new1 w (.cells (clA a) 56) 56 (clA b)
  have hb : Below w.heap.size w ((w.alloc (.cells (clA a) 56)).alloc (.cells (clA b) 56)) := ((Below.refl w.heap.size w).alloc (Nat.le_refl _) _).alloc (by simp) _
  have h1 : ∀ W : World, (Op.equalIn 10000 33 (.agg #[.int .i64 a.id.1, .int .i64 a.id.2]) (.agg #[.int .i64 b.id.1, .int .i64 b.id.2])).run Try.prog W = .ok (decide (a.id = b.id)) W := eq_st a.id b.id
  have h2 : ∀ W : World, (Op.equalIn 10000 33 (.agg #[.int .i64 a.after.1, .int .i64 a.after.2]) (.agg #[.int .i64 b.after.1, .int .i64 b.after.2])).run Try.prog W = .ok (decide (a.after = b.after)) W := eq_st a.after b.after
  have h3 : ∀ W : World, (Op.equalIn 10000 37 (.agg (ptA a.pt)) (.agg (ptA b.pt))).run Try.prog W = .ok (decide (a.pt = b.pt)) W := eq_pt a.pt b.pt
  have hs : sameC a b = (decide (a.id = b.id) && (decide (a.after = b.after) && decide (a.pt = b.pt))) := by unfold sameC; simp [Bool.decide_and]
  rw [hs]
  obtain ⟨b1, e1⟩ : ∃ q, decide (a.id = b.id) = q := ⟨_, rfl⟩
  obtain ⟨b2, e2⟩ : ∃ q, decide (a.after = b.after) = q := ⟨_, rfl⟩
  obtain ⟨b3, e3⟩ : ∃ q, decide (a.pt = b.pt) = q := ⟨_, rfl⟩
  rw [e1] at h1 ⊢
  rw [e2] at h2 ⊢
  rw [e3] at h3 ⊢
  clear e1 e2 e3 hs
  obtain ⟨a0, a1, a2, a3, -⟩ := cl_cells kA
  obtain ⟨c0, c1, c2, c3, -⟩ := cl_cells kB
  have KA := Lib.hid kA
  have KB := Lib.hid kB
  clear kA kB
  obtain ⟨CA, hCA⟩ : ∃ x, clA a = x := ⟨_, rfl⟩
  obtain ⟨CB, hCB⟩ : ∃ x, clA b = x := ⟨_, rfl⟩
  obtain ⟨PA, hPA⟩ : ∃ x, ptA a.pt = x := ⟨_, rfl⟩
  obtain ⟨PB, hPB⟩ : ∃ x, ptA b.pt = x := ⟨_, rfl⟩
  rw [hPA, hPB] at h3
  rw [hCA, hCB] at KA KB hb a0 a1 a2 a3 c0 c1 c2 c3 ⊢
  have HCA := Lib.hid hCA
  have HCB := Lib.hid hCB
  have HPA := Lib.hid hPA
  have HPB := Lib.hid hPB
  clear hCA hCB hPA hPB
  go_enter Try.func52, Try.ntmps52
  go_upto_region 1 with fail
  generalize (w.alloc (.cells CA 56)).alloc (.cells CB 56) = W at *
  cases b1 with
  | false =>
    go_wp2
    go_ret
    exact ⟨rfl, hb⟩
  | true =>
    cases b2 with
    | false =>
      go_wp2
      go_ret
      exact ⟨rfl, hb⟩
    | true =>
      go_wp2_with (first
        | (refine load_ptg (x := .tmp 18) rfl rfl (g := w.heap.size) rfl (c := a) (by rw [HCA.out]; exact KA.out) ?_; rw [HPA.out])
        | (refine load_ptg (x := .tmp 20) rfl rfl (g := w.heap.size + 1) rfl (c := b) (by rw [HCB.out]; exact KB.out) ?_; rw [HPB.out]))
      go_ret
      exact ⟨by cases b3 <;> rfl, hb⟩

theorem exec_load_at {ev : Operand → Value} {o : Oper} {W : World} {x : Operand} (ho : o.op = .load 56 x) {B g off i : Nat} {A : Option Addr} {l : List Cl} (hx : ev x = .pointer (some ⟨g, off + i * 20, none⟩))
    (hr : ClsAt W B A l) (hA : A = some ⟨g, off, none⟩) {c : Cl} (hi : l[i]? = some c) : (execOp ev o).run Try.prog W = .ok (.value (.agg (clA c))) W := by
  unfold execOp
  simp only [ho, hx, Instr.loadAt, Instr.sureAddr, Sem.run_bind, Sem.run_pure, Result.andThen_ok, at_load hr hi hA]
theorem ClsAt.drewN {w : World} {B : Nat} {A : Option Addr} {l : List Cl} (h : ClsAt w B A l) (n : Nat) : ClsAt (w.drewN n) B A l := h
theorem ClsAt.drew {w : World} {B : Nat} {A : Option Addr} {l : List Cl} (h : ClsAt w B A l) : ClsAt w.drew B A l := h
theorem eq_step {α : Type} {l m : List α} {k : Nat} {x : α} (h : l.take k = m.take k) (hx : l[k]? = some x) (hy : m[k]? = some x) : l.take (k + 1) = m.take (k + 1) := by
  rw [List.take_add_one, List.take_add_one, h, hx, hy]
set_option maxRecDepth 100000 in
set_option maxHeartbeats 8000000 in
theorem rSame_any (w : World) (B1 B2 : Nat) (A1 A2 : Option Addr) (cap1 cap2 : Nat) (l m : List Cl) (h1 : ClsAt w B1 A1 l) (h2 : ClsAt w B2 A2 m) (hl : l.length ≤ 1000000) (hm : m.length ≤ 1000000) :
    Calls Try.prog 19 #[.slice A1 l.length cap1, .slice A2 m.length cap2] w fun e w' => e = .returned (.bool (decide (l = m))) ∧ ∃ n, w' = w.drewN n := by
  have H1 := Lib.hid h1
  have H2 := Lib.hid h2
  obtain ⟨N, hN⟩ : ∃ N, l.length = N := ⟨_, rfl⟩
  obtain ⟨M, hM⟩ : ∃ M, m.length = M := ⟨_, rfl⟩
  obtain ⟨R, hR⟩ : ∃ R, decide (l = m) = R := ⟨_, rfl⟩
  rw [hN] at hl ⊢
  rw [hM] at hm ⊢
  rw [hR]
  have HN := Lib.hid hN
  have HM := Lib.hid hM
  have HR := Lib.hid hR
  clear h1 h2 hN hM hR
  go_enter Try.func19, Try.ntmps19
  by_cases hNM : N = M
  · subst hNM
    go_wp2_with fail
    go_loopw [5] (fun i wr => ∃ k nq : Nat, wr = w.drewN nq ∧ k ≤ N ∧ i = .int .i64 (k : Int) ∧ Hid (l.take k = m.take k)) (fun i _ => N - (intOf i).toNat)
    case atStart => exact ⟨0, 0, rfl, Nat.zero_le _, rfl, Lib.hid rfl⟩
    case round =>
      obtain ⟨k, nq, rfl, hk, rfl, HK⟩ := hrel
      by_cases hkN : k < N
      · obtain ⟨c, hc⟩ : ∃ c, l[k]? = some c := ⟨_, List.getElem?_eq_getElem (by rw [HN.out]; exact hkN)⟩
        obtain ⟨d, hd⟩ : ∃ d, m[k]? = some d := ⟨_, List.getElem?_eq_getElem (by rw [HM.out]; exact hkN)⟩
        obtain ⟨g1, o1, rfl, -, -⟩ := H1.out k c hc
        obtain ⟨g2, o2, rfl, -, -⟩ := H2.out k d hd
        have e1 : decide ((k : Int) < (N : Int)) = true := decide_eq_true (by omega)
        have hez := eq_cl c d
        have HKN := Lib.hid hkN
        have HC := Lib.hid hc
        have HD := Lib.hid hd
        have HEZ := Lib.hid hez
        clear hc hd hez hkN
        go_upto_region 6 with fail
        refine wp_region_hold (fun W => ClsAt W B1 (some ⟨g1, o1, none⟩) l ∧ ClsAt W B2 (some ⟨g2, o2, none⟩) m) [0, 1, 2, 3, 4, 5, 6, 7] [] [8] (by kernel_rfl) (by kernel_rfl) (fun _ d _ _ _ h => by cases d <;> exact h) ⟨H1.out.drewN (nq + 1), H2.out.drewN (nq + 1)⟩ ?_
        simp only [pick, List.drop_succ_cons, List.drop_zero, List.head?_cons, Option.toList_some, List.cons_append, List.nil_append, List.append_nil]
        have hkN := HKN.out
        iterate 3 (refine wpHeld_step ?_ rfl ?_ ?_; rotate_left; · (intro W hW; go_simp; with_reducible rfl))
        refine wpHeld_step ?_ rfl ?_ ?_
        rotate_left
        · intro W hW; refine exec_load_at (x := .tmp 19) ?_ ?_ hW.1 rfl HC.out <;> rfl
        iterate 3 (refine wpHeld_step ?_ rfl ?_ ?_; rotate_left; · (intro W hW; go_simp; with_reducible rfl))
        refine wpHeld_step ?_ rfl ?_ ?_
        rotate_left
        · intro W hW; refine exec_load_at (x := .tmp 23) ?_ ?_ hW.2 rfl HD.out <;> rfl
        refine wpHeld_nil ?_
        simp only [wpEarly]
        have hez := HEZ.out
        clear HEZ
        by_cases he : c = d
        · have HK2 := Lib.hid (eq_step HK.out HC.out (by rw [he]; exact HD.out))
          rw [decide_eq_true he] at hez
          clear he HK HC HD
          generalize clA c = CC at *
          generalize clA d = CD at *
          go_wp2_with fail
          refine ⟨⟨k + 1, nq + 1, rfl, HKN.out, by go_num, HK2⟩, ?_⟩
          have := HKN.out
          simp [intOf]
          omega
        · obtain rfl : R = false := by
            rw [← HR.out]
            refine decide_eq_false fun e => he ?_
            have h3 := HC.out
            rw [e, HD.out] at h3
            exact (Option.some.inj h3).symm
          rw [decide_eq_false he] at hez
          clear he HK HC HD
          generalize clA c = CC at *
          generalize clA d = CD at *
          go_wp2
          go_ret
          exact ⟨rfl, nq + 1, rfl⟩
      · obtain rfl : k = N := by omega
        obtain rfl : R = true := by
          rw [← HR.out]
          refine decide_eq_true ?_
          have h3 := HK.out
          rw [← HN.out, List.take_length, HN.out, ← HM.out, List.take_length] at h3
          exact h3
        clear HK
        go_wp2
        go_ret
        exact ⟨rfl, nq, rfl⟩
  · have e1 : ((N : Int) != (M : Int)) = true := by simpa using fun h => hNM (by omega)
    obtain rfl : R = false := by
      rw [← HR.out]
      refine decide_eq_false fun e => hNM ?_
      rw [← HN.out, ← HM.out, e]
    go_wp2
    go_ret
    exact ⟨rfl, 0, rfl⟩
end Go.Proofs.Ytaicbllfkehhjaa

/- Pages in a law: what the calls leave. -/
namespace Go.Proofs.Ytaicbllfkehhjaa
open Go.RowKit

/-- A page of the law's: at p, its map at b, at most n clauses. -/
structure PP (w : World) (base p b n : Nat) (L : List Cl) : Prop where
  at_ : PgAt w p b L
  lo : base ≤ p
  lob : base ≤ b
  pg : Pg L
  len : L.length ≤ n
theorem pg_bound {L : List Cl} (h : Pg L) : ∀ c ∈ L, -4000000 ≤ c.id.1 ∧ c.id.1 ≤ 4000000 ∧ -4000000 ≤ c.id.2 ∧ c.id.2 ≤ 4000000 := fun c hc => by
  have := (properC_iff.1 (h.proper c hc)).1
  omega
section
variable {w w' : World} {base p b n : Nat} {L : List Cl}
theorem PP.below (h : PP w base p b n L) (k : Below w.heap.size w w') : PP w' base p b n L := ⟨h.at_.below k, h.lo, h.lob, h.pg, h.len⟩
theorem PP.only {F : Foot} (h : PP w base p b n L) (k : Only F w w') (h1 : ¬ F p) (h2 : ¬ F b) : PP w' base p b n L := ⟨h.at_.only k h1 h2, h.lo, h.lob, h.pg, h.len⟩
theorem PP.drewN (h : PP w base p b n L) (q : Nat) : PP (w.drewN q) base p b n L := h.below ⟨rfl, rfl, rfl, Nat.le_refl _, fun _ _ => rfl⟩
theorem PgAt.nep {q d : Nat} {M : List Cl} (h : PgAt w p b L) (k : PgAt w q d M) : p ≠ d := by
  obtain ⟨L', ⟨es, clock, k1, _⟩, _⟩ := k.map
  have := h.blk
  unfold Blk at this
  intro e
  rw [e, k1] at this
  cases this
/-- What a change of one page's map leaves of another page. -/
theorem PP.far {q d m : Nat} {M : List Cl} (h : PP w base p b n L) (k : PP w base q d m M) (hne : b ≠ d) (o : Only (fun i => i = d) w w') : PP w' base p b n L := h.only o (h.at_.nep k.at_) hne
theorem PP.farp {q d m : Nat} {M : List Cl} (h : PP w base p b n L) (k : PP w base q d m M) (hne : p ≠ q) (o : Only (fun i => i = q) w w') : PP w' base p b n L := h.only o hne fun e => k.at_.nep h.at_ e.symm
theorem OwnCls.below {v : Value} {l : List Cl} {B : Nat} (h : OwnCls w B v l) (k : Below w.heap.size w w') : OwnCls w' B v l := (Only.of_below k fun _ => False).owns h fun _ _ => id
theorem OwnCls.dN {v : Value} {l : List Cl} {B : Nat} (h : OwnCls w B v l) (q : Nat) : OwnCls (w.drewN q) B v l := h
theorem OwnCls.far {v : Value} {l : List Cl} {B : Nat} (h : OwnCls w B v l) (k : PgAt w p b L) (o : Only (fun i => i = b) w w') : OwnCls w' B v l := o.owns h fun g hg e => by
  obtain ⟨L', k1, _⟩ := k.map
  exact h.ne_map k1 (by rw [hg, e])
theorem OwnCls.farp {v : Value} {l : List Cl} {B : Nat} (h : OwnCls w B v l) (k : PgAt w p b L) (o : Only (fun i => i = p) w w') : OwnCls w' B v l := o.owns h fun g hg e => h.ne_blk k.blk (by decide) (by rw [hg, e])
theorem OwnCls.len {v : Value} {l : List Cl} {B : Nat} (h : OwnCls w B v l) : ∃ A cap, v = .slice A l.length cap := by
  obtain ⟨A, cap, h1, _⟩ := h.form
  exact ⟨A, cap, h1⟩
end

theorem pp_list (w : World) {base p b n : Nat} {L : List Cl} (h : PP w base p b n L) (hn : n ≤ 100000) :
    Calls Try.prog 40 #[.pointer (some ⟨p, 0, none⟩)] w fun e w' => ∃ v, e = .returned v ∧ OwnCls w' w.heap.size v (walkS L) ∧ Below w.heap.size w w' :=
  list_any w p b L h.at_ h.pg.tr (pg_bound h.pg) (by have := h.len; omega)
theorem pp_put (w : World) {base p b n : Nat} {L : List Cl} (h : PP w base p b n L) (hn : n ≤ 100000) (c : Cl) :
    Calls Try.prog 46 #[.pointer (some ⟨p, 0, none⟩), .agg (clA c)] w fun e w' => e = .returned (.int .i64 (putS L c).2) ∧ PP w' base p b (n + 1) (putS L c).1 ∧ Only (fun i => i = b) w w' :=
  (put_any w p b L h.at_ h.pg.uq (by have := h.len; omega) c).mono fun e w' ⟨h1, h2, h3⟩ => ⟨h1, ⟨h2, h.lo, h.lob, h.pg.put c, Nat.le_trans (putS_len L c) (Nat.succ_le_succ h.len)⟩, h3⟩
theorem dropS_len (L : List Cl) (t : St2) : (dropS L t).1.length = L.length := by
  unfold dropS setC
  split <;> simp
theorem pp_drop (w : World) {base p b n : Nat} {L : List Cl} (h : PP w base p b n L) (t : St2) :
    Calls Try.prog 49 #[.pointer (some ⟨p, 0, none⟩), .agg (stA t)] w fun e w' => e = .returned (.int .i64 (dropS L t).2) ∧ PP w' base p b n (dropS L t).1 ∧ Only (fun i => i = b) w w' :=
  (drop_any w p b L h.at_ h.pg.uq t).mono fun e w' ⟨h1, h2, h3⟩ => ⟨h1, ⟨h2, h.lo, h.lob, h.pg.drop t, by rw [dropS_len]; exact h.len⟩, h3⟩
theorem joinS_len (L M : List Cl) : (joinS L M).1.length ≤ L.length + M.length := by
  unfold joinS
  split
  · simp
  · rename_i A hA
    have := addAll_len hA
    split
    · simp
    · exact this
theorem own_same (w : World) {B1 B2 : Nat} {v1 v2 : Value} {l m : List Cl} (h1 : OwnCls w B1 v1 l) (h2 : OwnCls w B2 v2 m) (hl : l.length ≤ 1000000) (hm : m.length ≤ 1000000) :
    Calls Try.prog 19 #[v1, v2] w fun e w' => e = .returned (.bool (decide (l = m))) ∧ ∃ n, w' = w.drewN n := by
  obtain ⟨A1, c1, rfl, k1⟩ := h1.form
  obtain ⟨A2, c2, rfl, k2⟩ := h2.form
  exact rSame_any w _ _ A1 A2 c1 c2 l m k1 k2 hl hm
theorem own_find (w : World) {B : Nat} {v : Value} {l : List Cl} (h : OwnCls w B v l) (hl : l.length ≤ 1000000) (t : St2) :
    Calls Try.prog 26 #[v, .agg (stA t)] w fun e w' => e = .returned (.int .i64 (findS l t)) ∧ Below w.heap.size w w' := by
  obtain ⟨A, c, rfl, k⟩ := h.form
  exact rFind_any w _ A c l k (Nat.le_refl _) hl t
theorem own_open (w : World) {B : Nat} {v : Value} {l : List Cl} (h : OwnCls w B v l) (hl : l.length ≤ 1000000) :
    Calls Try.prog 53 #[v] w fun e w' => e = .returned (.int .i64 (openN l : Nat)) ∧ w' = w := by
  obtain ⟨A, c, rfl, k⟩ := h.form
  exact rOpen_any w _ A c l k hl
theorem walk_len {L : List Cl} (h : Pg L) : (walkS L).length = L.length := (walk_perm h.tr).length_eq
end Go.Proofs.Ytaicbllfkehhjaa

/- Reading arguments: a slice of structs whose fields are one cell each. Over any program. -/
namespace Go.Proofs.Ytaicbllfkehhjaa
open Go.RowKit Go.ChangeShapes Go.WideShapes Go.Deep

section
variable {H : Type} {enc : TypeId × Value → H} {P : Program} {w : World} {base : Nat} {spare : Nat → Bool} {held : Bool}

theorem spot_none {w : World} {a : Addr} {k : Nat} {v : Value} (h : w.cell? (a.add k) = some v) : a.add k = ⟨a.block, a.off + k, none⟩ := by
  have hs := World.cell?_spot h
  obtain ⟨b, o, s⟩ := a
  by_cases h0 : k = 0
  · subst h0
    have : s = none := by simpa [Addr.add] using hs
    subst this
    simp [Addr.add]
  · simp [Addr.add, h0]

theorem slice_len {t e : TypeId} {fuel len cap : Nat} {A : Option Addr} {x : DataW H × List MemPlace} (ht : P.underlying t = some (.slice e)) (h : DataW.trod enc P w base spare held fuel t [.slice A len cap] = some x) :
    len ≤ 9223372036854775807 := by
  rcases open_slice ht h with ⟨h0, _⟩ | ⟨a, len', cap', m, n, D, Pl, hcs, hb, hl, hm, _⟩
  · injection h0 with h0
    injection h0 with _ h1 _
    omega
  · injection hcs with hcs _
    injection hcs with hA hle hca
    subst hA hle hca
    unfold maxLen at hm
    omega

/-- The elements of a slice of structs, cell by cell. -/
theorem slice_structs {t e : TypeId} {fs : Array Field} {fuel len cap : Nat} {A : Option Addr} {x : DataW H × List MemPlace} (ht : P.underlying t = some (.slice e)) (he : P.underlying e = some (.struct fs))
    (hone : oneCellFields P fs = true) (hC : P.cellsOf e = fs.size) (h : DataW.trod enc P w base spare held fuel t [.slice A len cap] = some x) :
    ∀ i, i < len → ∃ (a : Addr) (n : Nat) (vs : List Value), A = some a ∧ vs.length = fs.size ∧ (∀ j v, vs[j]? = some v → w.cell? ⟨a.block, a.off + i * fs.size + j, none⟩ = some v ∧ a.block < w.heap.size) ∧
      (0 < fs.size → a.spot = none) ∧
      ∀ (j : Nat) (f : Field), fs[j]? = some f → ∃ v y, vs[j]? = some v ∧ DataW.trod enc P w base spare held n f.type [v] = some y := by
  intro i hi
  rcases open_slice ht h with ⟨h0, _⟩ | ⟨a, len', cap', m, n, D, Pl, hcs, hb, hl, hm, hmm, hx, hall⟩
  · injection h0 with h0
    injection h0 with _ h1 _
    omega
  · injection hcs with hcs _
    injection hcs with hA hle hca
    subst hA hle hca
    obtain ⟨cs', hc, ht'⟩ := hall i (by rw [hmm]; split <;> omega)
    rw [hC] at hc
    obtain ⟨ys, n', _, _, hlen, hyl, hf⟩ := DataW.trod_struct he ht'
    obtain ⟨_, hcl, hat⟩ := World.cells?_some hc
    have hcell : ∀ j v, cs'[j]? = some v → w.cell? ((a.add (i * fs.size)).add j) = some v := fun j v hv => by
      have hj : j < fs.size := by rw [← hcl]; exact (List.getElem?_eq_some_iff.1 hv).1
      rw [hat j hj, hv]
    refine ⟨a, n', cs', rfl, hcl, fun j v hv => ?_, fun h0 => ?_, fun j f hj => ?_⟩
    · have h1 := hcell j v hv
      rw [Go.Deep.add_add] at h1
      have h2 := spot_none h1
      rw [h2] at h1
      have h3 : a.off + (i * fs.size + j) = a.off + i * fs.size + j := by omega
      rw [h3] at h1
      refine ⟨h1, ?_⟩
      exact World.block_lt_of_cell? w ⟨a.block, a.off + i * fs.size + j, none⟩ h1
    · obtain ⟨cs0, hc0, _⟩ := hall 0 (by rw [hmm]; split <;> omega)
      rw [hC] at hc0
      obtain ⟨_, hcl0, hat0⟩ := World.cells?_some hc0
      have h1 := hat0 0 h0
      rw [List.getElem?_eq_getElem (by omega)] at h1
      rw [Go.Deep.add_add] at h1
      simpa [Addr.add] using World.cell?_spot h1
    · obtain ⟨ho, hk⟩ := hone_of hone j f hj
      have hjl : j < fs.size := (Array.getElem?_eq_some_iff.1 hj).1
      have h1 := hf j f hj
      rw [ho, hk] at h1
      have h2 : (cs'.drop j).take 1 = [cs'[j]'(by omega)] := by
        rw [List.drop_eq_getElem_cons (by omega)]
        rfl
      rw [h2] at h1
      exact ⟨_, ys[j]'(by omega), List.getElem?_eq_getElem (by omega), h1.trans (List.getElem?_eq_getElem (by omega))⟩
end

/-- A list made element by element. -/
theorem list_of {α : Type} {p : Nat → α → Prop} (n : Nat) (h : ∀ i, i < n → ∃ a, p i a) : ∃ l : List α, l.length = n ∧ ∀ i a, l[i]? = some a → p i a := by
  induction n with
  | zero => exact ⟨[], rfl, fun i a hi => by simp at hi⟩
  | succ n ih =>
    obtain ⟨l, hl, hp⟩ := ih (fun i hi => h i (by omega))
    obtain ⟨a, ha⟩ := h n (by omega)
    refine ⟨l ++ [a], by simp [hl], fun i b hi => ?_⟩
    rcases Nat.lt_or_ge i l.length with h1 | h1
    · rw [List.getElem?_append_left h1] at hi
      exact hp i b hi
    · have : i = l.length := by
        have := (List.getElem?_eq_some_iff.1 hi).1
        simp at this
        omega
      subst this
      simp at hi
      subst hi
      rw [hl]
      exact ha
end Go.Proofs.Ytaicbllfkehhjaa

/- Reading clauses, stamps and operations as arguments. -/
namespace Go.Proofs.Ytaicbllfkehhjaa
open Go.RowKit Go.ChangeShapes Go.WideShapes Go.Deep

section
variable {H : Type} {enc : TypeId × Value → H} {P : Program} {w : World} {base : Nat} {spare : Nat → Bool} {held : Bool}
/-- The elements of a slice, each by its cells. -/
theorem slice_elems {t e : TypeId} {fuel len cap k : Nat} {A : Option Addr} {x : DataW H × List MemPlace} (ht : P.underlying t = some (.slice e)) (hC : P.cellsOf e = k) (hk : 0 < k)
    (h : DataW.trod enc P w base spare held fuel t [.slice A len cap] = some x) :
    ∀ i, i < len → ∃ (g off n : Nat) (vs : List Value) (y : DataW H × List MemPlace), A = some ⟨g, off, none⟩ ∧ g < w.heap.size ∧ vs.length = k ∧ (∀ j v, vs[j]? = some v → w.cell? ⟨g, off + i * k + j, none⟩ = some v) ∧ DataW.trod enc P w base spare held n e vs = some y := by
  intro i hi
  rcases open_slice ht h with ⟨h0, _⟩ | ⟨a, len', cap', m, n, D, Pl, hcs, hb, hl, hm, hmm, hx, hall⟩
  · injection h0 with h0
    injection h0 with _ h1 _
    omega
  · injection hcs with hcs _
    injection hcs with hA hle hca
    subst hA hle hca
    rw [hC] at hall
    obtain ⟨g, off, spot⟩ := a
    have hspot : spot = none := by
      obtain ⟨cs0, hc0, _⟩ := hall 0 (by rw [hmm]; split <;> omega)
      obtain ⟨_, hcl0, hat0⟩ := World.cells?_some hc0
      have h1 := hat0 0 hk
      rw [List.getElem?_eq_getElem (by omega), Go.Deep.add_add] at h1
      simpa [Addr.add] using World.cell?_spot h1
    subst hspot
    obtain ⟨cs', hc, ht'⟩ := hall i (by rw [hmm]; split <;> omega)
    obtain ⟨_, hcl, hat⟩ := World.cells?_some hc
    have hcell : ∀ j v, cs'[j]? = some v → w.cell? ⟨g, off + i * k + j, none⟩ = some v := fun j v hv => by
      have hj : j < k := by rw [← hcl]; exact (List.getElem?_eq_some_iff.1 hv).1
      have h1 := hat j hj
      rw [hv, Go.Deep.add_add] at h1
      have h2 := spot_none h1
      rw [h2] at h1
      have h3 : off + (i * k + j) = off + i * k + j := by omega
      rw [h3] at h1
      exact h1
    have hlt : g < w.heap.size := by
      have h1 := hcell 0 (cs'[0]'(by omega)) (List.getElem?_eq_getElem (by omega))
      exact World.block_lt_of_cell? w ⟨g, off + i * k + 0, none⟩ h1
    exact ⟨g, off, n, cs', _, rfl, hlt, hcl, hcell, ht'⟩
end
section
variable {H : Type} {enc : TypeId × Value → H} {w : World} {base : Nat} {spare : Nat → Bool} {held : Bool}
set_option maxRecDepth 100000 in
theorem st_of_trod {fuel : Nat} {a b : Value} {x : DataW H × List MemPlace} (hf : DataW.trod enc Try.prog w base spare held fuel 33 [a, b] = some x) : ∃ s : St2, a = .int .i64 s.1 ∧ b = .int .i64 s.2 := by
  obtain ⟨xs, n, _, _, _, hlen, hfl⟩ := DataW.trod_struct Try.underlying33 hf
  have g : ∀ i, i < xs.length → ∃ y, xs[i]? = some y := fun i hi => ⟨_, List.getElem?_eq_getElem hi⟩
  have hl : xs.length = 2 := hlen
  obtain ⟨y0, e0⟩ := g 0 (by omega)
  obtain ⟨y1, e1⟩ := g 1 (by omega)
  obtain ⟨k0, h0, _, _⟩ := DataW.trod_int Try.underlying3 ((hfl 0 _ rfl).trans e0)
  obtain ⟨k1, h1, _, _⟩ := DataW.trod_int Try.underlying3 ((hfl 1 _ rfl).trans e1)
  exact ⟨(k0, k1), by injection h0, by injection h1⟩
set_option maxRecDepth 100000 in
theorem it_of_trod {fuel : Nat} {c0 c1 c2 c3 c4 c5 c6 : Value} {x : DataW H × List MemPlace} (hf : DataW.trod enc Try.prog w base spare held fuel 35 [c0, c1, c2, c3, c4, c5, c6] = some x) :
    ∃ s : Itm, c0 = .int .i64 s.1 ∧ c1 = .string s.2.1 ∧ c2 = .string s.2.2.1 ∧ c3 = .string s.2.2.2.1 ∧ c4 = .string s.2.2.2.2.1 ∧ c5 = .string s.2.2.2.2.2.1 ∧ c6 = .bool s.2.2.2.2.2.2 := by
  obtain ⟨xs, n, _, _, _, hlen, hfl⟩ := DataW.trod_struct Try.underlying35 hf
  have g : ∀ i, i < xs.length → ∃ y, xs[i]? = some y := fun i hi => ⟨_, List.getElem?_eq_getElem hi⟩
  have hl : xs.length = 7 := hlen
  obtain ⟨y0, e0⟩ := g 0 (by omega)
  obtain ⟨y1, e1⟩ := g 1 (by omega)
  obtain ⟨y2, e2⟩ := g 2 (by omega)
  obtain ⟨y3, e3⟩ := g 3 (by omega)
  obtain ⟨y4, e4⟩ := g 4 (by omega)
  obtain ⟨y5, e5⟩ := g 5 (by omega)
  obtain ⟨y6, e6⟩ := g 6 (by omega)
  obtain ⟨k0, h0, _, _⟩ := DataW.trod_int Try.underlying3 ((hfl 0 _ rfl).trans e0)
  obtain ⟨k1, h1, _, _⟩ := DataW.trod_string Try.underlying9 ((hfl 1 _ rfl).trans e1)
  obtain ⟨k2, h2, _, _⟩ := DataW.trod_string Try.underlying9 ((hfl 2 _ rfl).trans e2)
  obtain ⟨k3, h3, _, _⟩ := DataW.trod_string Try.underlying9 ((hfl 3 _ rfl).trans e3)
  obtain ⟨k4, h4, _, _⟩ := DataW.trod_string Try.underlying9 ((hfl 4 _ rfl).trans e4)
  obtain ⟨k5, h5, _, _⟩ := DataW.trod_string Try.underlying9 ((hfl 5 _ rfl).trans e5)
  obtain ⟨k6, h6, _⟩ := DataW.trod_bool Try.underlying4 ((hfl 6 _ rfl).trans e6)
  exact ⟨(k0, k1, k2, k3, k4, k5, k6), by injection h0, by injection h1, by injection h2, by injection h3, by injection h4, by injection h5, by injection h6⟩
set_option maxRecDepth 100000 in
theorem pt_of_trod {fuel : Nat} {c0 c1 c2 c3 c4 c5 c6 c7 c8 c9 ca cb cc cd ce : Value} {x : DataW H × List MemPlace} (hf : DataW.trod enc Try.prog w base spare held fuel 37 [c0, c1, c2, c3, c4, c5, c6, c7, c8, c9, ca, cb, cc, cd, ce] = some x) :
    ∃ p : Pt, [c0, c1, c2, c3, c4, c5, c6, c7, c8, c9, ca, cb, cc, cd, ce] = encP p := by
  obtain ⟨xs, n, _, _, _, hlen, hfl⟩ := DataW.trod_struct Try.underlying37 hf
  have g : ∀ i, i < xs.length → ∃ y, xs[i]? = some y := fun i hi => ⟨_, List.getElem?_eq_getElem hi⟩
  have hl : xs.length = 9 := hlen
  obtain ⟨y0, e0⟩ := g 0 (by omega)
  obtain ⟨y1, e1⟩ := g 1 (by omega)
  obtain ⟨y2, e2⟩ := g 2 (by omega)
  obtain ⟨y3, e3⟩ := g 3 (by omega)
  obtain ⟨y4, e4⟩ := g 4 (by omega)
  obtain ⟨y5, e5⟩ := g 5 (by omega)
  obtain ⟨y6, e6⟩ := g 6 (by omega)
  obtain ⟨y7, e7⟩ := g 7 (by omega)
  obtain ⟨y8, e8⟩ := g 8 (by omega)
  obtain ⟨k0, h0, _, _⟩ := DataW.trod_int Try.underlying3 ((hfl 0 _ rfl).trans e0)
  obtain ⟨k1, h1, _, _⟩ := DataW.trod_string Try.underlying9 ((hfl 1 _ rfl).trans e1)
  obtain ⟨k2, h2, _, _⟩ := DataW.trod_string Try.underlying9 ((hfl 2 _ rfl).trans e2)
  obtain ⟨k3, h3, _, _⟩ := DataW.trod_string Try.underlying9 ((hfl 3 _ rfl).trans e3)
  obtain ⟨k4, h4, _, _⟩ := DataW.trod_string Try.underlying9 ((hfl 4 _ rfl).trans e4)
  obtain ⟨it, i0, i1, i2, i3, i4, i5, i6⟩ := it_of_trod (show DataW.trod enc Try.prog w base spare held n 35 [c5, c6, c7, c8, c9, ca, cb] = some y5 from (hfl 5 _ rfl).trans e5)
  obtain ⟨k6, h6, _, _⟩ := DataW.trod_int Try.underlying3 ((hfl 6 _ rfl).trans e6)
  obtain ⟨k7, h7, _, _⟩ := DataW.trod_string Try.underlying9 ((hfl 7 _ rfl).trans e7)
  obtain ⟨k8, h8, _, _⟩ := DataW.trod_string Try.underlying9 ((hfl 8 _ rfl).trans e8)
  have q0 : c0 = .int .i64 k0 := by injection h0
  have q1 : c1 = .string k1 := by injection h1
  have q2 : c2 = .string k2 := by injection h2
  have q3 : c3 = .string k3 := by injection h3
  have q4 : c4 = .string k4 := by injection h4
  have q6 : cc = .int .i64 k6 := by injection h6
  have q7 : cd = .string k7 := by injection h7
  have q8 : ce = .string k8 := by injection h8
  subst q0 q1 q2 q3 q4 q6 q7 q8 i0 i1 i2 i3 i4 i5 i6
  exact ⟨(k0, k1, k2, k3, k4, it, k6, k7, k8), rfl⟩
set_option maxRecDepth 100000 in
theorem twenty {cs : List Value} (h : cs.length = 20) : ∃ c0 c1 c2 c3 p0 p1 p2 p3 p4 p5 p6 p7 p8 p9 pa pb pc pd pe g, cs = [c0, c1, c2, c3, p0, p1, p2, p3, p4, p5, p6, p7, p8, p9, pa, pb, pc, pd, pe, g] := by
  match cs, h with
  | [c0, c1, c2, c3, p0, p1, p2, p3, p4, p5, p6, p7, p8, p9, pa, pb, pc, pd, pe, g], _ => exact ⟨c0, c1, c2, c3, p0, p1, p2, p3, p4, p5, p6, p7, p8, p9, pa, pb, pc, pd, pe, g, rfl⟩
set_option maxRecDepth 100000 in
theorem cl_of_trod {fuel : Nat} {cs : List Value} (hcl : cs.length = 20) {x : DataW H × List MemPlace} (hf : DataW.trod enc Try.prog w base spare held fuel 56 cs = some x) : ∃ c : Cl, cs = encC c := by
  obtain ⟨c0, c1, c2, c3, p0, p1, p2, p3, p4, p5, p6, p7, p8, p9, pa, pb, pc, pd, pe, gv, rfl⟩ := twenty hcl
  obtain ⟨xs, n, _, _, _, hlen, hfl⟩ := DataW.trod_struct Try.underlying56 hf
  have g : ∀ i, i < xs.length → ∃ y, xs[i]? = some y := fun i hi => ⟨_, List.getElem?_eq_getElem hi⟩
  have hl : xs.length = 4 := hlen
  obtain ⟨y0, e0⟩ := g 0 (by omega)
  obtain ⟨y1, e1⟩ := g 1 (by omega)
  obtain ⟨y2, e2⟩ := g 2 (by omega)
  obtain ⟨y3, e3⟩ := g 3 (by omega)
  obtain ⟨s0, i0, i1⟩ := st_of_trod (show DataW.trod enc Try.prog w base spare held n 33 [c0, c1] = some y0 from (hfl 0 _ rfl).trans e0)
  obtain ⟨s1, i2, i3⟩ := st_of_trod (show DataW.trod enc Try.prog w base spare held n 33 [c2, c3] = some y1 from (hfl 1 _ rfl).trans e1)
  obtain ⟨p, hp⟩ := pt_of_trod (show DataW.trod enc Try.prog w base spare held n 37 [p0, p1, p2, p3, p4, p5, p6, p7, p8, p9, pa, pb, pc, pd, pe] = some y2 from (hfl 2 _ rfl).trans e2)
  obtain ⟨k, h3, _⟩ := DataW.trod_bool Try.underlying4 ((hfl 3 _ rfl).trans e3)
  have q3 : gv = .bool k := by injection h3
  subst i0 i1 i2 i3 q3
  refine ⟨⟨s0, s1, p, k⟩, ?_⟩
  show [_, _, _, _] ++ ([p0, p1, p2, p3, p4, p5, p6, p7, p8, p9, pa, pb, pc, pd, pe] ++ [_]) = _
  rw [hp]
  rfl
set_option maxRecDepth 100000 in
theorem cls_of_trod {fuel len cap : Nat} {A : Option Addr} {x : DataW H × List MemPlace} (hf : DataW.trod enc Try.prog w base spare held fuel 41 [.slice A len cap] = some x) :
    ∃ l : List Cl, l.length = len ∧ ClsAt w w.heap.size A l ∧ len ≤ 9223372036854775807 := by
  have hlen := slice_len Try.underlying41 hf
  have hs := slice_elems (k := 20) Try.underlying41 (by kernel_rfl) (by decide) hf
  obtain ⟨S, hl, hp⟩ := list_of (p := fun i (c : Cl) => ∃ g off, A = some ⟨g, off, none⟩ ∧ g < w.heap.size ∧ ∀ (k : Nat) (v : Value), (encC c)[k]? = some v → w.cell? ⟨g, off + i * 20 + k, none⟩ = some v) len (fun i hi => by
    obtain ⟨g, off, n, vs, y, h1, h2, h3, h4, h5⟩ := hs i hi
    obtain ⟨c, rfl⟩ := cl_of_trod h3 h5
    exact ⟨c, g, off, h1, h2, h4⟩)
  exact ⟨S, hl, hp, hlen⟩
set_option maxRecDepth 100000 in
theorem cls_at {len cap : Nat} {A : Option Addr} {d : DataW H} {p : List MemPlace} (h : DataW.Trod enc Try.prog w base spare held 41 (.slice A len cap) d p) :
    ∃ l : List Cl, l.length = len ∧ ClsAt w w.heap.size A l := by
  obtain ⟨fuel, hf⟩ := h
  obtain ⟨l, h1, h2, _⟩ := cls_of_trod (show DataW.trod enc Try.prog w base spare held fuel 41 [.slice A len cap] = some _ from hf)
  exact ⟨l, h1, h2⟩
set_option maxRecDepth 100000 in
theorem clause_at {v : Value} {d : DataW H} {p : List MemPlace} {cs : Array Value} (hv : v = .agg cs) (hsz : cs.size = Try.prog.cellsOf 56)
    (h : DataW.Trod enc Try.prog w base spare held 56 v d p) : ∃ c : Cl, v = .agg (clA c) := by
  subst hv
  have h2 : Try.prog.cellsOf 56 = 20 := by kernel_rfl
  rw [h2] at hsz
  obtain ⟨fuel, hf⟩ := h
  have hc : (Value.agg cs).cells.toList = cs.toList := rfl
  rw [hc] at hf
  obtain ⟨c, h3⟩ := cl_of_trod (by simpa using hsz) hf
  exact ⟨c, by congr 1; exact Array.toList_inj.1 h3⟩
set_option maxRecDepth 100000 in
theorem stamp_at {v : Value} {d : DataW H} {p : List MemPlace} {cs : Array Value} (hv : v = .agg cs) (hsz : cs.size = Try.prog.cellsOf 33)
    (h : DataW.Trod enc Try.prog w base spare held 33 v d p) : ∃ s : St2, v = .agg (stA s) := by
  subst hv
  have h2 : Try.prog.cellsOf 33 = 2 := by kernel_rfl
  rw [h2] at hsz
  obtain ⟨fuel, hf⟩ := h
  have hc : (Value.agg cs).cells.toList = cs.toList := rfl
  rw [hc] at hf
  obtain ⟨⟨a, b⟩, hcs⟩ : ∃ q : Value × Value, cs = #[q.1, q.2] := by
    obtain ⟨l⟩ := cs
    match l, hsz with
    | [c0, c1], _ => exact ⟨(c0, c1), rfl⟩
  subst hcs
  obtain ⟨s, h3, h4⟩ := st_of_trod hf
  simp only at h3 h4
  subst h3 h4
  exact ⟨s, rfl⟩

end
end Go.Proofs.Ytaicbllfkehhjaa
