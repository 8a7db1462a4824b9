/- A further stop: the last day comes not earlier. What Change can return. Migrations, plain laws: what stays, what is carried over; two in a row; one that keeps all. The chapter's examples: what the contracts say of them. -/
import Derived.Test.YtknchlpcpgflkaaGreatDoorKGBE
import Derived.Test.YtknchlpcpgflkaaGreatDoorKGAX
import Derived.Test.YtknchlpcpgflkaaGreatDoorKNb
namespace Go.Proofs.YtknchlpcpgflkaaGreatDoor
open Go.RowKit Go.Shelf

theorem pz_more {f : Int} {S : List Stp2} {s : Stp2} {x : Int} : pzB f (S ++ [s]) x = true ↔ pzB f S x = true ∨ (f < x ∧ s.1 ≤ x ∧ x < s.2) := by
  rw [pzB_iff, pzB_iff]
  constructor
  · rintro ⟨h1, t, ht, h2⟩
    rcases List.mem_append.1 ht with h3 | h3
    · exact .inl ⟨h1, t, h3, h2⟩
    · simp only [List.mem_cons, List.not_mem_nil, or_false] at h3
      subst h3
      exact .inr ⟨h1, h2⟩
  · rintro (⟨h1, t, ht, h2⟩ | ⟨h1, h2⟩)
    · exact ⟨h1, t, List.mem_append_left _ ht, h2⟩
    · exact ⟨h1, s, by simp, h2⟩
/-- What a last day is. -/
theorem due_is {L : Lm} {l : List Int} (h : (dueS L l).2 = 0) : prB L = true ∧ (addS l L.f L.n L.u).2 = 0 ∧ dueS L l = openS (pzB L.f L.S) l (nthU (pzB L.f L.S) L.f ((addS l L.f L.n L.u).1 - L.f).toNat) := by
  unfold dueS at h ⊢
  cases hp : prB L with
  | false => rw [hp, if_neg (by simp)] at h; cases h
  | true =>
    rw [hp, if_pos rfl] at h
    rw [if_pos rfl]
    by_cases ha : (addS l L.f L.n L.u).2 = 0
    · rw [if_pos ha]
      exact ⟨rfl, ha, rfl⟩
    · rw [if_neg ha] at h
      exact absurd h ha
theorem stops_err {L : Lm} {s : Stp2} {l : List Int} (h : (dueS L l).2 = 0) (hs : psB s = true) (hl : L.S.length ≤ 9) : (dueS ⟨L.id, L.n, L.u, L.f, L.S ++ [s]⟩ l).2 = 0 ∨ (dueS ⟨L.id, L.n, L.u, L.f, L.S ++ [s]⟩ l).2 = 10 := by
  obtain ⟨h1, h2, -⟩ := due_is h
  have hp : prB ⟨L.id, L.n, L.u, L.f, L.S ++ [s]⟩ = true := by
    obtain ⟨a, b, c, d, g⟩ := prB_iff.1 h1
    exact prB_iff.2 ⟨a, b, c, by show (L.S ++ [s]).length ≤ 60; simp; omega, fun t ht => by
      rcases List.mem_append.1 ht with h3 | h3
      · exact g t h3
      · simp only [List.mem_cons, List.not_mem_nil, or_false] at h3
        rw [h3]; exact hs⟩
  unfold dueS
  rw [hp, if_pos rfl, if_pos h2]
  rcases Classical.em ((openS (pzB L.f (L.S ++ [s])) l (nthU (pzB L.f (L.S ++ [s])) L.f ((addS l L.f L.n L.u).1 - L.f).toNat)).2 = 0) with h3 | h3
  · exact .inl h3
  · exact .inr (by rw [(openS_err h3).1])
theorem stops_ge {L : Lm} {s : Stp2} {l : List Int} (h : (dueS L l).2 = 0) (hM : (dueS ⟨L.id, L.n, L.u, L.f, L.S ++ [s]⟩ l).2 = 0) :
    (dueS L l).1 ≤ (dueS ⟨L.id, L.n, L.u, L.f, L.S ++ [s]⟩ l).1 ∧
      ((∀ i, s.1 ≤ i → i < s.2 → (dueS L l).1 < i ∨ i ≤ L.f ∨ pzB L.f L.S i = true) → (dueS L l).1 = (dueS ⟨L.id, L.n, L.u, L.f, L.S ++ [s]⟩ l).1) := by
  obtain ⟨h1, h2, h3⟩ := due_is h
  obtain ⟨m1, m2, m3⟩ := due_is hM
  rw [h3] at h ⊢
  rw [m3] at hM ⊢
  obtain ⟨g1, g2, g3⟩ := add_ge h2
  obtain ⟨-, -, -, -, hS⟩ := prB_iff.1 h1
  obtain ⟨-, -, -, -, hT⟩ := prB_iff.1 m1
  have hpf := pz_far (f := L.f) hS
  have hqf := pz_far (f := L.f) hT
  simp only at hM hqf ⊢
  obtain ⟨N, hN⟩ : ∃ N : Nat, ((addS l L.f L.n L.u).1 - L.f).toNat = N := ⟨_, rfl⟩
  rw [hN] at h hM ⊢
  obtain ⟨a1, a2, a3⟩ := nthU_spec hpf L.f N
  obtain ⟨b1, b2, b3⟩ := nthU_spec hqf L.f N
  obtain ⟨o1, o2, o3, o4, o5⟩ := openS_ok h
  obtain ⟨r1, r2, r3, r4, r5⟩ := openS_ok hM
  have hpq : ∀ i, pzB L.f L.S i = true → pzB L.f (L.S ++ [s]) i = true := fun i hi => pz_more.2 (.inl hi)
  have hge : nthU (pzB L.f L.S) L.f N ≤ nthU (pzB L.f (L.S ++ [s])) L.f N := by
    rcases Nat.eq_zero_or_pos N with h0 | h0
    · subst h0; exact Int.le_refl _
    · rcases Int.lt_or_le (nthU (pzB L.f (L.S ++ [s])) L.f N) (nthU (pzB L.f L.S) L.f N) with c | c
      · have c1 := cntU_anti (p := pzB L.f L.S) (q := pzB L.f (L.S ++ [s])) L.f (nthU (pzB L.f (L.S ++ [s])) L.f N - L.f).toNat (fun i _ _ => hpq i)
        have c2 := cntU_lt (p := pzB L.f L.S) L.f (k := (nthU (pzB L.f (L.S ++ [s])) L.f N - L.f).toNat) (j := (nthU (pzB L.f L.S) L.f N - L.f).toNat) (by omega) (by
          rw [show L.f + ((nthU (pzB L.f L.S) L.f N - L.f).toNat : Int) = nthU (pzB L.f L.S) L.f N by omega]
          exact a3 h0)
        omega
      · exact c
  have hle : (openS (pzB L.f L.S) l (nthU (pzB L.f L.S) L.f N)).1 ≤ (openS (pzB L.f (L.S ++ [s])) l (nthU (pzB L.f (L.S ++ [s])) L.f N)).1 := by
    rcases Int.lt_or_le (openS (pzB L.f (L.S ++ [s])) l (nthU (pzB L.f (L.S ++ [s])) L.f N)).1 (openS (pzB L.f L.S) l (nthU (pzB L.f L.S) L.f N)).1 with c | c
    · rcases o5 _ (by omega) c with c2 | c2
      · rw [hpq _ c2] at r3; cases r3
      · rw [c2] at r4; cases r4
    · exact c
  refine ⟨hle, fun hn => ?_⟩
  have heq : ∀ i, i ≤ (openS (pzB L.f L.S) l (nthU (pzB L.f L.S) L.f N)).1 → pzB L.f (L.S ++ [s]) i = pzB L.f L.S i := fun i hi => by
    cases hc : pzB L.f (L.S ++ [s]) i with
    | false =>
      cases hd : pzB L.f L.S i with
      | false => rfl
      | true => rw [hpq i hd] at hc; cases hc
    | true =>
      rcases pz_more.1 hc with h4 | ⟨h4, h5, h6⟩
      · exact h4.symm
      · rcases hn i h5 h6 with h7 | h7 | h7
        · omega
        · omega
        · exact h7.symm
  have hnn : nthU (pzB L.f (L.S ++ [s])) L.f N = nthU (pzB L.f L.S) L.f N := by
    refine nthU_uniq hqf (by omega) (fun h0 => by subst h0; rfl) (fun h0 => by rw [heq _ o1]; exact a3 h0) ?_
    exact (cntU_congr (p := pzB L.f (L.S ++ [s])) (q := pzB L.f L.S) L.f (nthU (pzB L.f L.S) L.f N - L.f).toNat (fun i _ h8 => heq i (by omega))).trans a2
  rw [hnn] at r1 r5 hle ⊢
  rcases Int.lt_or_le (openS (pzB L.f L.S) l (nthU (pzB L.f L.S) L.f N)).1 (openS (pzB L.f (L.S ++ [s])) l (nthU (pzB L.f L.S) L.f N)).1 with c | c
  · rcases r5 _ o1 c with c2 | c2
    · rw [heq _ (Int.le_refl _), o3] at c2; cases c2
    · rw [o4] at c2; cases c2
  · omega
/-- Whether none of the first k days of a stop counts. -/
def nonB (a f : Int) (S : List Stp2) (lo : Int) : Nat → Bool
  | 0 => true
  | k + 1 => nonB a f S lo k && (decide (a < lo + (k : Int)) || decide (lo + (k : Int) ≤ f) || pzB f S (lo + (k : Int)))
theorem nonB_all {a f : Int} {S : List Stp2} {lo : Int} : ∀ k : Nat, nonB a f S lo k = true → ∀ i, lo ≤ i → i < lo + (k : Int) → a < i ∨ i ≤ f ∨ pzB f S i = true
  | 0, _, i, h1, h2 => by omega
  | k + 1, h, i, h1, h2 => by
    have h : (nonB a f S lo k && (decide (a < lo + (k : Int)) || decide (lo + (k : Int) ≤ f) || pzB f S (lo + (k : Int)))) = true := h
    rw [Bool.and_eq_true, Bool.or_eq_true, Bool.or_eq_true, decide_eq_true_eq, decide_eq_true_eq] at h
    by_cases hi : i = lo + (k : Int)
    · rw [hi]
      rcases h.2 with (h3 | h3) | h3
      · exact .inl h3
      · exact .inr (.inl h3)
      · exact .inr (.inr h3)
    · exact nonB_all k h.1 i h1 (by omega)
end Go.Proofs.YtknchlpcpgflkaaGreatDoor

namespace Go.Proofs.YtknchlpcpgflkaaGreatDoor
open Go.RowKit Go.Shelf

theorem due_end {L : Lm} {l : List Int} (h : (dueS L l).2 = 0) : (addS l L.f L.n L.u).1 ≤ (dueS L l).1 := by
  obtain ⟨h1, h2, h3⟩ := due_is h
  rw [h3] at h ⊢
  obtain ⟨g1, -, -⟩ := add_ge h2
  obtain ⟨-, -, -, -, hS⟩ := prB_iff.1 h1
  obtain ⟨a1, -, -⟩ := nthU_spec (pz_far (f := L.f) hS) L.f ((addS l L.f L.n L.u).1 - L.f).toNat
  obtain ⟨o1, -⟩ := openS_ok h
  omega
theorem due_days {id : ByteArray} {n f : Int} {S : List Stp2} {l : List Int} (h : (dueS ⟨id, n, 1, f, S⟩ l).2 = 0) : f + n ≤ (dueS ⟨id, n, 1, f, S⟩ l).1 := by
  have h1 := due_end h
  obtain ⟨-, h2, -⟩ := due_is h
  simp only at h1 h2
  obtain ⟨-, -, -, -, -, -, p, h7, -, h9, -⟩ := addS_ok h2
  unfold stepS at h7
  rw [if_pos rfl] at h7
  injection h7 with h7 _
  have := fromS_le l p
  omega
theorem change_cases (L : Lm) (day n u least : Int) (l : List Int) :
    (∃ f, f ≠ 0 ∧ changeS L day n u least l = (Lm.zero, f)) ∨
    ((dueS L l).2 = 0 ∧ (dueS L l).1 < day ∧ changeS L day n u least l = (L, 0)) ∨
    ((dueS L l).2 = 0 ∧ ¬ (dueS L l).1 < day ∧ 0 ≤ day ∧ day ≤ 1000000 ∧ 0 ≤ least ∧ least ≤ 1000000 ∧ ∃ N U F, changeS L day n u least l = (⟨L.id, N, U, F, L.S⟩, 0) ∧ (dueS ⟨L.id, N, U, F, L.S⟩ l).2 = 0 ∧ day + least ≤ (dueS ⟨L.id, N, U, F, L.S⟩ l).1 ∧
      (dueS ⟨L.id, n, u, L.f, L.S⟩ l).2 = 0 ∧ ((dueS ⟨L.id, n, u, L.f, L.S⟩ l).1 < day + least ∨ (N = n ∧ U = u ∧ F = L.f))) := by
  unfold changeS
  by_cases h1 : prB L = false ∨ isB day = false ∨ ptB n u = false ∨ least < 0 ∨ 1000000 < least
  · rw [if_pos h1]; exact .inl ⟨1, by simp, rfl⟩
  rw [if_neg h1]
  by_cases h2 : (dueS L l).2 ≠ 0
  · rw [if_pos h2]; exact .inl ⟨_, h2, rfl⟩
  rw [if_neg h2]
  have h2 : (dueS L l).2 = 0 := Classical.not_not.1 h2
  by_cases h3 : (dueS L l).1 < day
  · rw [if_pos h3]; exact .inr (.inl ⟨h2, h3, rfl⟩)
  rw [if_neg h3]
  have hd : 0 ≤ day ∧ day ≤ 1000000 := by
    refine (isB_iff _).1 ?_
    cases hh : isB day with
    | true => rfl
    | false => exact absurd (.inr (.inl hh)) h1
  have hl : 0 ≤ least ∧ least ≤ 1000000 := by
    constructor
    · rcases Int.lt_or_le least 0 with c | c
      · exact absurd (.inr (.inr (.inr (.inl c)))) h1
      · exact c
    · rcases Int.lt_or_le 1000000 least with c | c
      · exact absurd (.inr (.inr (.inr (.inr c)))) h1
      · exact c
  by_cases h4 : (dueS ⟨L.id, n, u, L.f, L.S⟩ l).2 ≠ 0
  · rw [if_pos h4]; exact .inl ⟨_, h4, rfl⟩
  rw [if_neg h4]
  have h4 : (dueS ⟨L.id, n, u, L.f, L.S⟩ l).2 = 0 := Classical.not_not.1 h4
  by_cases h5 : (dueS ⟨L.id, n, u, L.f, L.S⟩ l).1 < day + least
  · rw [if_pos h5]
    by_cases h6 : (dueS ⟨L.id, least, 1, day, L.S⟩ l).2 ≠ 0
    · rw [if_pos h6]; exact .inl ⟨_, h6, rfl⟩
    rw [if_neg h6]
    have h6 : (dueS ⟨L.id, least, 1, day, L.S⟩ l).2 = 0 := Classical.not_not.1 h6
    exact .inr (.inr ⟨h2, h3, hd.1, hd.2, hl.1, hl.2, least, 1, day, rfl, h6, due_days h6, h4, .inl h5⟩)
  · rw [if_neg h5]
    exact .inr (.inr ⟨h2, h3, hd.1, hd.2, hl.1, hl.2, n, u, L.f, rfl, h4, by omega, h4, .inr ⟨rfl, rfl, rfl⟩⟩)

end Go.Proofs.YtknchlpcpgflkaaGreatDoor

namespace Go.Proofs.YtknchlpcpgflkaaGreatDoor

/-! Limits under new terms. -/
def termOf (ts : List Lm) (id : ByteArray) : Option Lm := ts.find? fun t => decide (t.id = id)
noncomputable def chgS (ts : List Lm) (day : Int) (l : List Int) (x : Lm) : Lm × Int :=
  match termOf ts x.id with
  | some t => changeS x day t.n t.u t.f l
  | none => (x, 0)
/-- The first error. -/
noncomputable def chgE (ts : List Lm) (day : Int) (l : List Int) : List Lm → Int
  | [] => 0
  | x :: xs => if (chgS ts day l x).2 ≠ 0 then (chgS ts day l x).2 else chgE ts day l xs
noncomputable def chgL (ts : List Lm) (day : Int) (l : List Int) (ls : List Lm) : List Lm := ls.map fun x => (chgS ts day l x).1
noncomputable def applyE (m : Mt) (g : Mg) (p q : Pc) (day : Int) (l : List Int) : Int :=
  if apB m g p q day = false then 1
  else if newSt g m.st < 0 then 12
  else if day < m.o ∨ day < lastI m.o m.mv then 24
  else chgE g.ts day l m.ls
noncomputable def applyM (m : Mt) (g : Mg) (p q : Pc) (day : Int) (l : List Int) : Mt :=
  if applyE m g p q day l = 0 then ⟨m.id, m.o, m.cs, g.tn, newSt g m.st, m.mv, mergeR g.rs m.rs, chgL g.ts day l m.ls⟩ else Mt.zero

/-! Names. -/
theorem namedL_some {rs : List (ByteArray × ByteArray)} {n : ByteArray} {r : ByteArray × ByteArray} (h : (rs.find? fun r => decide (r.1 = n)) = some r) : namedL rs n = r.2 := by unfold namedL; rw [h]
theorem namedL_none {rs : List (ByteArray × ByteArray)} {n : ByteArray} (h : (rs.find? fun r => decide (r.1 = n)) = none) : namedL rs n = n := by unfold namedL; rw [h]
theorem namedL_nil (n : ByteArray) : namedL [] n = n := rfl
theorem find_none {rs : List (ByteArray × ByteArray)} {n : ByteArray} : (rs.find? fun r => decide (r.1 = n)) = none ↔ n ∉ rs.map (·.1) := by
  rw [List.find?_eq_none, List.mem_map]
  constructor
  · rintro h ⟨r, hr, he⟩
    exact h r hr (decide_eq_true he)
  · intro h r hr he
    exact h ⟨r, hr, of_decide_eq_true he⟩
theorem namedL_good {rs : List (ByteArray × ByteArray)} (h : ∀ r ∈ rs, rnB r = true) {n : ByteArray} (hn : nameB n = true) : nameB (namedL rs n) = true := by
  cases hf : rs.find? fun r => decide (r.1 = n) with
  | none => rw [namedL_none hf]; exact hn
  | some r =>
    rw [namedL_some hf]
    have := h r (List.mem_of_find?_eq_some hf)
    unfold rnB at this
    exact (Bool.and_eq_true _ _ ▸ this).2
/-- The last of the entries is the first: keys are different. -/
theorem namedL_at {rs : List (ByteArray × ByteArray)} (h : (rs.map (·.1)).Nodup) {r : ByteArray × ByteArray} (hr : r ∈ rs) : namedL rs r.1 = r.2 := by
  cases hf : rs.find? fun x => decide (x.1 = r.1) with
  | none => exact absurd (List.mem_map.2 ⟨r, hr, rfl⟩) (find_none.1 hf)
  | some x =>
    rw [namedL_some hf]
    have hx := List.mem_of_find?_eq_some hf
    have he : x.1 = r.1 := of_decide_eq_true (List.find?_some (p := fun x : ByteArray × ByteArray => decide (x.1 = r.1)) hf)
    obtain ⟨i, hi⟩ := List.getElem?_of_mem hx
    obtain ⟨j, hj⟩ := List.getElem?_of_mem hr
    have h1 : (rs.map (·.1))[i]? = some x.1 := by rw [List.getElem?_map, hi]; rfl
    have h2 : (rs.map (·.1))[j]? = some x.1 := by rw [List.getElem?_map, hj, he]; rfl
    have hij := (List.getElem?_inj (List.getElem?_eq_some_iff.1 h1).1 h).1 (h1.trans h2.symm)
    subst hij
    rw [hi] at hj
    injection hj with hj
    rw [hj]

/-! Rights. -/
theorem rtB_iff {o : Int} {r : Rt} : rtB o r = true ↔ nameB r.1 = true ∧ o ≤ r.2 ∧ isB r.2 = true := by
  unfold rtB
  simp only [Bool.and_eq_true, decide_eq_true_eq]
theorem mergeR_dif {rs : List (ByteArray × ByteArray)} {o : Int} {l : List Rt} (hg : ∀ r ∈ rs, rnB r = true) (h : difB (·.1) (rtB o) l = true) : difB (·.1) (rtB o) (mergeR rs l) = true := by
  obtain ⟨h1, -, h3⟩ := difB_iff.1 h
  refine difB_iff.2 ⟨fun x hx => ?_, mergeR_nodup rs l, Nat.le_trans (mergeR_len rs l) h3⟩
  obtain ⟨r, hr, rfl⟩ := mergeR_mem hx
  obtain ⟨a, b, c⟩ := rtB_iff.1 (h1 r hr)
  exact rtB_iff.2 ⟨namedL_good hg a, b, c⟩
theorem putR_mem_names {out : List Rt} {n : ByteArray} {s : Int} {k : ByteArray} (h : k ∈ out.map (·.1)) : k ∈ (putR out n s).map (·.1) := by
  rw [putR_names]
  split
  · exact h
  · exact List.mem_append_left _ h
theorem putR_self (out : List Rt) (n : ByteArray) (s : Int) : n ∈ (putR out n s).map (·.1) := by
  rw [putR_names]
  split
  · assumption
  · exact List.mem_append_right _ (by simp)
theorem putR_twice (out : List Rt) (n : ByteArray) (s t : Int) : putR (putR out n s) n t = putR out n (min s t) := by
  by_cases h : n ∈ out.map (·.1)
  · have h1 := putR_self out n s
    unfold putR at h1 ⊢
    rw [if_pos h] at h1 ⊢
    rw [if_pos h1, if_pos h, List.map_map]
    apply List.map_congr_left
    intro x _
    by_cases hx : x.1 = n
    · simp only [Function.comp, hx, if_true, Int.min_assoc]
    · simp only [Function.comp, hx, if_false]
  · have h1 := putR_self out n s
    unfold putR at h1 ⊢
    rw [if_neg h] at h1 ⊢
    rw [if_pos h1, if_neg h, List.map_append]
    congr 1
    · exact (List.map_congr_left (g := id) fun x hx => if_neg fun he => h (List.mem_map.2 ⟨x, hx, he⟩)).trans (List.map_id _)
    · simp
theorem putR_swap {out : List Rt} {k n : ByteArray} {s t : Int} (h : k ∈ out.map (·.1)) : putR (putR out k s) n t = putR (putR out n t) k s := by
  by_cases he : k = n
  · subst he
    rw [putR_twice, putR_twice, Int.min_comm]
  have h1 : k ∈ (putR out n t).map (·.1) := putR_mem_names h
  have e1 : putR (putR out n t) k s = (putR out n t).map fun x => if x.1 = k then (x.1, min x.2 s) else x := by rw [putR, if_pos h1]
  have e2 : putR out k s = out.map fun x => if x.1 = k then (x.1, min x.2 s) else x := by rw [putR, if_pos h]
  have e3 : (putR out k s).map (·.1) = out.map (·.1) := by rw [putR_names, if_pos h]
  rw [e1]
  unfold putR at e3 ⊢
  rw [if_pos h] at e3 ⊢
  by_cases hn : n ∈ out.map (·.1)
  · rw [if_pos (by rw [e3]; exact hn), if_pos hn, List.map_map, List.map_map]
    apply List.map_congr_left
    intro x _
    by_cases a : x.1 = k
    · have b : ¬ x.1 = n := fun b => he (a.symm.trans b)
      simp only [Function.comp, if_pos a, if_neg b]
    · by_cases b : x.1 = n
      · simp only [Function.comp, if_neg a, if_pos b]
      · simp only [Function.comp, if_neg a, if_neg b]
  · rw [if_neg (by rw [e3]; exact hn), if_neg hn, List.map_append]
    congr 1
    show [(n, t)] = [if n = k then (n, min t s) else (n, t)]
    rw [if_neg fun e => he e.symm]
theorem mergeTo_swap (rs : List (ByteArray × ByteArray)) : ∀ (l out : List Rt) {k : ByteArray} {s : Int}, k ∈ out.map (·.1) → mergeTo rs (putR out k s) l = putR (mergeTo rs out l) k s
  | [], _, _, _, _ => rfl
  | r :: l, out, k, s, h => by
    show mergeTo rs (putR (putR out k s) (namedL rs r.1) r.2) l = putR (mergeTo rs (putR out (namedL rs r.1) r.2) l) k s
    rw [putR_swap h]
    exact mergeTo_swap rs l _ (putR_mem_names h)
theorem mergeTo_app (rs : List (ByteArray × ByteArray)) (out a b : List Rt) : mergeTo rs out (a ++ b) = mergeTo rs (mergeTo rs out a) b := by unfold mergeTo; exact List.foldl_append
/-- One more right, then new names: new names, then one more. -/
theorem merge_put (rs : List (ByteArray × ByteArray)) (out : List Rt) (n : ByteArray) (s : Int) (hd : (out.map (·.1)).Nodup) : mergeR rs (putR out n s) = putR (mergeR rs out) (namedL rs n) s := by
  by_cases h : n ∈ out.map (·.1)
  · obtain ⟨y, hy, hn⟩ := List.mem_map.1 h
    obtain ⟨a, b, rfl⟩ := List.append_of_mem hy
    have hna : ∀ x ∈ a, ¬ x.1 = n := by
      intro x hx he
      rw [List.map_append, List.nodup_append] at hd
      exact hd.2.2 x.1 (List.mem_map.2 ⟨x, hx, rfl⟩) y.1 (List.mem_map.2 ⟨y, by simp, rfl⟩) (he.trans hn.symm)
    have hnb : ∀ x ∈ b, ¬ x.1 = n := by
      intro x hx he
      rw [List.map_append, List.nodup_append, List.map_cons, List.nodup_cons] at hd
      exact hd.2.1.1 (List.mem_map.2 ⟨x, hx, he.trans hn.symm⟩)
    have e : putR (a ++ y :: b) n s = a ++ ((y.1, min y.2 s) :: b) := by
      unfold putR
      rw [if_pos h, List.map_append, List.map_cons, if_pos hn]
      congr 1
      · exact (List.map_congr_left (g := id) fun x hx => if_neg (hna x hx)).trans (List.map_id _)
      · congr 1
        exact (List.map_congr_left (g := id) fun x hx => if_neg (hnb x hx)).trans (List.map_id _)
    rw [e]
    unfold mergeR
    rw [mergeTo_app, mergeTo_app]
    show mergeTo rs (putR (mergeTo rs [] a) (namedL rs y.1) (min y.2 s)) b = putR (mergeTo rs (putR (mergeTo rs [] a) (namedL rs y.1) y.2) b) (namedL rs n) s
    rw [← putR_twice, hn]
    exact mergeTo_swap rs b _ (putR_self _ _ _)
  · have e : putR out n s = out ++ [(n, s)] := by unfold putR; rw [if_neg h]
    rw [e]
    exact mergeTo_snoc _ _ _ _
theorem namedL_congr {rs rs' : List (ByteArray × ByteArray)} {n : ByteArray} (h : (rs.find? fun r => decide (r.1 = n)) = rs'.find? fun r => decide (r.1 = n)) : namedL rs n = namedL rs' n := by unfold namedL; rw [h]
theorem named_then (a b : Mg) (n : ByteArray) : namedL (thenRs a b) n = namedL b.rs (namedL a.rs n) := by
  have h1 : ((a.rs.map fun r => (r.1, namedL b.rs r.2)).find? fun r => decide (r.1 = n)) = (a.rs.find? fun r => decide (r.1 = n)).map fun r => (r.1, namedL b.rs r.2) := by
    rw [List.find?_map]; rfl
  unfold thenRs
  cases hf : a.rs.find? fun r => decide (r.1 = n) with
  | some r =>
    rw [namedL_some hf]
    refine namedL_some (r := (r.1, namedL b.rs r.2)) ?_
    rw [List.find?_append, h1, hf]
    rfl
  | none =>
    rw [namedL_none hf]
    have hn := find_none.1 hf
    have h2 : ((b.rs.filter fun r => decide (r.1 ∉ a.rs.map (·.1))).find? fun r => decide (r.1 = n)) = b.rs.find? fun r => decide (r.1 = n) := by
      rw [List.find?_filter]
      congr 1
      funext r
      by_cases hr : r.1 = n
      · subst hr
        rw [decide_eq_true hn]; simp
      · rw [decide_eq_false hr]; simp
    refine namedL_congr ?_
    rw [List.find?_append, h2, h1, hf, Option.map_none, Option.none_or]
theorem merge_then (a b : Mg) (l : List Rt) : mergeR b.rs (mergeR a.rs l) = mergeR (thenRs a b) l := by
  have key : ∀ k, k ≤ l.length → mergeR b.rs (mergeR a.rs (l.take k)) = mergeR (thenRs a b) (l.take k) := by
    intro k
    induction k with
    | zero => intro _; rfl
    | succ k ih =>
      intro hk
      have hx : l[k]? = some l[k] := List.getElem?_eq_getElem (by omega)
      rw [mergeR_take hx, mergeR_take hx, merge_put _ _ _ _ (mergeR_nodup _ _), ih (by omega), named_then]
  have := key l.length (Nat.le_refl _)
  rwa [List.take_length] at this
theorem merge_nil : ∀ (l : List Rt), (l.map (·.1)).Nodup → mergeR [] l = l := by
  intro l hd
  have key : ∀ k, k ≤ l.length → mergeR [] (l.take k) = l.take k := by
    intro k
    induction k with
    | zero => intro _; rfl
    | succ k ih =>
      intro hk
      have hx : l[k]? = some l[k] := List.getElem?_eq_getElem (by omega)
      rw [mergeR_take hx, ih (by omega), take_snoc' hx, namedL_nil]
      unfold putR
      rw [if_neg]
      intro hm
      rw [List.map_take] at hm
      obtain ⟨i, hi⟩ := List.getElem?_of_mem hm
      rw [List.getElem?_take] at hi
      split at hi
      case isTrue hik =>
        have hj : (l.map (·.1))[k]? = some l[k].1 := by rw [List.getElem?_map, hx]; rfl
        have := (List.getElem?_inj (List.getElem?_eq_some_iff.1 hj).1 hd).1 (hj.trans hi.symm)
        omega
      case isFalse => cases hi
  have := key l.length (Nat.le_refl _)
  rwa [List.take_length] at this

/-! Limits. -/
theorem chgS_ok {ts : List Lm} {day : Int} {l : List Int} {x : Lm} (h : (chgS ts day l x).2 = 0) : (chgS ts day l x).1.id = x.id ∧ (prB x = true → prB (chgS ts day l x).1 = true) := by
  unfold chgS at h ⊢
  cases ht : termOf ts x.id with
  | none => rw [ht] at h; exact ⟨rfl, id⟩
  | some t =>
    rw [ht] at h
    simp only at h ⊢
    rcases change_cases x day t.n t.u t.f l with ⟨f, hf, he⟩ | ⟨-, -, he⟩ | ⟨-, -, -, -, -, -, N, U, F, he, hd, -⟩
    · rw [he] at h; exact absurd h hf
    · rw [he]; exact ⟨rfl, id⟩
    · rw [he]; exact ⟨rfl, fun _ => (due_is hd).1⟩
theorem chgE_zero {ts : List Lm} {day : Int} {l : List Int} : ∀ {ls : List Lm}, chgE ts day l ls = 0 ↔ ∀ x ∈ ls, (chgS ts day l x).2 = 0
  | [] => by simp [chgE]
  | x :: xs => by
    unfold chgE
    by_cases h : (chgS ts day l x).2 ≠ 0
    · rw [if_pos h]
      exact ⟨fun h1 => absurd h1 h, fun h1 => h1 x (by simp)⟩
    · rw [if_neg h, chgE_zero]
      exact ⟨fun h1 y hy => by
        rcases List.mem_cons.1 hy with rfl | hy
        · exact Classical.not_not.1 h
        · exact h1 y hy, fun h1 y hy => h1 y (List.mem_cons_of_mem _ hy)⟩
theorem chgL_dif {ts : List Lm} {day : Int} {l : List Int} {ls : List Lm} (h : chgE ts day l ls = 0) (hd : difB (·.id) prB ls = true) : difB (·.id) prB (chgL ts day l ls) = true := by
  obtain ⟨h1, h2, h3⟩ := difB_iff.1 hd
  have h0 := chgE_zero.1 h
  refine difB_iff.2 ⟨fun y hy => ?_, ?_, ?_⟩
  · obtain ⟨x, hx, rfl⟩ := List.mem_map.1 hy
    exact (chgS_ok (h0 x hx)).2 (h1 x hx)
  · have : (chgL ts day l ls).map (·.id) = ls.map (·.id) := by
      unfold chgL
      rw [List.map_map]
      exact List.map_congr_left fun x hx => (chgS_ok (h0 x hx)).1
    rw [this]
    exact h2
  · unfold chgL
    rw [List.length_map]
    exact h3
end Go.Proofs.YtknchlpcpgflkaaGreatDoor

namespace Go.Proofs.YtknchlpcpgflkaaGreatDoor
open Go.RowKit Go.Shelf

def aidS : ByteArray := ⟨#[97, 105, 100]⟩
def supS : ByteArray := ⟨#[115, 117, 112, 112, 111, 114, 116]⟩
def helpS : ByteArray := ⟨#[104, 101, 108, 112]⟩
def hxM : Mt := ⟨⟨#[109]⟩, 5, [], oldS, 1, [6], [(supS, 9), (aidS, 7)], []⟩
def hxA : Mt := ⟨⟨#[109]⟩, 5, [], nextS, 2, [6], [(helpS, 7)], []⟩
def hxG : Mg := ⟨oldS, nextS, [0, 2, 3], [(aidS, helpS), (supS, helpS)], []⟩
def hxN : Mg := ⟨oldS, nextS, [0, -1, 3], [(aidS, helpS), (supS, helpS)], []⟩
def hxL : Pc := ⟨nextS, [filedS, triedS, heardS, decidedS], [(0, 1), (1, 0), (2, 3)]⟩
theorem hx_ap1 : applyE hxM hxG exP exQ 10 [] = 0 ∧ applyM hxM hxG exP exQ 10 [] = hxA := by
  have h : apB hxM hxG exP exQ 10 = true := by decide +kernel
  have he : applyE hxM hxG exP exQ 10 [] = 0 := by
    unfold applyE
    rw [if_neg (by rw [h]; decide), if_neg (by decide +kernel), if_neg (by decide +kernel)]
    rfl
  refine ⟨he, ?_⟩
  unfold applyM
  rw [if_pos he]
  have hr : mergeR hxG.rs hxM.rs = [(helpS, 7)] := by decide +kernel
  rw [hr]
  rfl
theorem hx_ap2 : applyE hxM hxN exP exQ 10 [] = 12 ∧ applyM hxM hxN exP exQ 10 [] = Mt.zero := by
  have h : apB hxM hxN exP exQ 10 = true := by decide +kernel
  have he : applyE hxM hxN exP exQ 10 [] = 12 := by
    unfold applyE
    rw [if_neg (by rw [h]; decide), if_pos (by decide +kernel)]
  refine ⟨he, ?_⟩
  unfold applyM
  rw [if_neg (by rw [he]; decide)]
theorem hx_ap3 : applyE hxM hxG exP exQ 5 [] = 24 ∧ applyM hxM hxG exP exQ 5 [] = Mt.zero := by
  have h : apB hxM hxG exP exQ 5 = true := by decide +kernel
  have he : applyE hxM hxG exP exQ 5 [] = 24 := by
    unfold applyE
    rw [if_neg (by rw [h]; decide), if_neg (by decide +kernel), if_pos (by decide +kernel)]
  refine ⟨he, ?_⟩
  unfold applyM
  rw [if_neg (by rw [he]; decide)]
theorem hx_v1 : vdB hxG exP exQ = true := by decide +kernel
theorem hx_v2 : vdB hxG exQ exP = false := by decide +kernel
theorem hx_v3 : vdB hxG exP hxL = true := by decide +kernel
theorem hx_e2 : endB exP 2 = true := endB_iff.2 ⟨2, ⟨by decide, by decide, by decide⟩, .refl _⟩
theorem hx_e0 : endB exP 0 = true := endB_iff.2 ⟨2, ⟨by decide, by decide, by decide⟩, .step (t := 1) (by decide) (.step (t := 2) (by decide) (.refl _))⟩
theorem hx_l0 : endB hxL 0 = false := by
  cases h : endB hxL 0 with
  | false => rfl
  | true =>
    obtain ⟨t, ht, hr⟩ := endB_iff.1 h
    have hV : t = 0 ∨ t = 1 := hr.fore (V := fun x => x = 0 ∨ x = 1) (by
      intro m hm h
      simp only [hxL, List.mem_cons, List.not_mem_nil, or_false] at hm
      rcases hm with rfl | rfl | rfl
      · exact .inr rfl
      · exact .inl rfl
      · simp at h) (.inl rfl)
    rcases hV with rfl | rfl
    · exact absurd rfl (ht.2.2 (0, 1) (by decide))
    · exact absurd rfl (ht.2.2 (1, 0) (by decide))
theorem hx_l2 : endB hxL 2 = true := endB_iff.2 ⟨3, ⟨by decide, by decide, by decide⟩, .step (t := 3) (by decide) (.refl _)⟩
theorem hx_l3 : endB hxL 3 = true := endB_iff.2 ⟨3, ⟨by decide, by decide, by decide⟩, .refl _⟩
theorem hx_stuck : stuckL hxG exP hxL = [0] := by
  unfold stuckL
  rw [if_pos hx_v3]
  have s0 : stkB hxG exP hxL 0 = true := by
    show (decide (0 ≤ (0 : Int)) && (endB exP 0 && !endB hxL 0)) = true
    rw [hx_e0, hx_l0]; rfl
  have s1 : stkB hxG exP hxL 1 = false := by
    show (decide (0 ≤ (2 : Int)) && (endB exP 1 && !endB hxL 2)) = false
    rw [hx_l2]; simp
  have s2 : stkB hxG exP hxL 2 = false := by
    show (decide (0 ≤ (3 : Int)) && (endB exP 2 && !endB hxL 3)) = false
    rw [hx_l3]; simp
  show ((([] ++ if stkB hxG exP hxL 0 = true then [((0 : Nat) : Int)] else []) ++ if stkB hxG exP hxL 1 = true then [((1 : Nat) : Int)] else []) ++ if stkB hxG exP hxL 2 = true then [((2 : Nat) : Int)] else []) = [0]
  rw [s0, s1, s2]
  rfl
end Go.Proofs.YtknchlpcpgflkaaGreatDoor
