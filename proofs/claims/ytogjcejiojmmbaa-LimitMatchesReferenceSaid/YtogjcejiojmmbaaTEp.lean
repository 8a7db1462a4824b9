/- A further stop: the last day comes not earlier. -/
import Derived.Test.YtogjcejiojmmbaaTDp
namespace Go.Proofs.Ytogjcejiojmmbaa
open Go.RowKit Go.Shelf

theorem pz_more {f : Int} {S : List Stp2} {s : Stp2} {x : Int} : pzB f (S ++ [s]) x = true ↔ pzB f S x = true ∨ (f < x ∧ s.1 ≤ x ∧ x < s.2) := by
  rw [pzB_iff, pzB_iff]
  constructor
  · rintro ⟨h1, t, ht, h2⟩
    rcases List.mem_append.1 ht with h3 | h3
    · exact .inl ⟨h1, t, h3, h2⟩
    · simp only [List.mem_cons, List.not_mem_nil, or_false] at h3
      subst h3
      exact .inr ⟨h1, h2⟩
  · rintro (⟨h1, t, ht, h2⟩ | ⟨h1, h2⟩)
    · exact ⟨h1, t, List.mem_append_left _ ht, h2⟩
    · exact ⟨h1, s, by simp, h2⟩
/-- What a last day is. -/
theorem due_is {L : Lm} {l : List Int} (h : (dueS L l).2 = 0) : prB L = true ∧ (addS l L.f L.n L.u).2 = 0 ∧ dueS L l = openS (pzB L.f L.S) l (nthU (pzB L.f L.S) L.f ((addS l L.f L.n L.u).1 - L.f).toNat) := by
  unfold dueS at h ⊢
  cases hp : prB L with
  | false => rw [hp, if_neg (by simp)] at h; cases h
  | true =>
    rw [hp, if_pos rfl] at h
    rw [if_pos rfl]
    by_cases ha : (addS l L.f L.n L.u).2 = 0
    · rw [if_pos ha]
      exact ⟨rfl, ha, rfl⟩
    · rw [if_neg ha] at h
      exact absurd h ha
theorem stops_err {L : Lm} {s : Stp2} {l : List Int} (h : (dueS L l).2 = 0) (hs : psB s = true) (hl : L.S.length ≤ 9) : (dueS ⟨L.id, L.n, L.u, L.f, L.S ++ [s]⟩ l).2 = 0 ∨ (dueS ⟨L.id, L.n, L.u, L.f, L.S ++ [s]⟩ l).2 = 10 := by
  obtain ⟨h1, h2, -⟩ := due_is h
  have hp : prB ⟨L.id, L.n, L.u, L.f, L.S ++ [s]⟩ = true := by
    obtain ⟨a, b, c, d, g⟩ := prB_iff.1 h1
    exact prB_iff.2 ⟨a, b, c, by show (L.S ++ [s]).length ≤ 60; simp; omega, fun t ht => by
      rcases List.mem_append.1 ht with h3 | h3
      · exact g t h3
      · simp only [List.mem_cons, List.not_mem_nil, or_false] at h3
        rw [h3]; exact hs⟩
  unfold dueS
  rw [hp, if_pos rfl, if_pos h2]
  rcases Classical.em ((openS (pzB L.f (L.S ++ [s])) l (nthU (pzB L.f (L.S ++ [s])) L.f ((addS l L.f L.n L.u).1 - L.f).toNat)).2 = 0) with h3 | h3
  · exact .inl h3
  · exact .inr (by rw [(openS_err h3).1])
theorem stops_ge {L : Lm} {s : Stp2} {l : List Int} (h : (dueS L l).2 = 0) (hM : (dueS ⟨L.id, L.n, L.u, L.f, L.S ++ [s]⟩ l).2 = 0) :
    (dueS L l).1 ≤ (dueS ⟨L.id, L.n, L.u, L.f, L.S ++ [s]⟩ l).1 ∧
      ((∀ i, s.1 ≤ i → i < s.2 → (dueS L l).1 < i ∨ i ≤ L.f ∨ pzB L.f L.S i = true) → (dueS L l).1 = (dueS ⟨L.id, L.n, L.u, L.f, L.S ++ [s]⟩ l).1) := by
  obtain ⟨h1, h2, h3⟩ := due_is h
  obtain ⟨m1, m2, m3⟩ := due_is hM
  rw [h3] at h ⊢
  rw [m3] at hM ⊢
  obtain ⟨g1, g2, g3⟩ := add_ge h2
  obtain ⟨-, -, -, -, hS⟩ := prB_iff.1 h1
  obtain ⟨-, -, -, -, hT⟩ := prB_iff.1 m1
  have hpf := pz_far (f := L.f) hS
  have hqf := pz_far (f := L.f) hT
  simp only at hM hqf ⊢
  obtain ⟨N, hN⟩ : ∃ N : Nat, ((addS l L.f L.n L.u).1 - L.f).toNat = N := ⟨_, rfl⟩
  rw [hN] at h hM ⊢
  obtain ⟨a1, a2, a3⟩ := nthU_spec hpf L.f N
  obtain ⟨b1, b2, b3⟩ := nthU_spec hqf L.f N
  obtain ⟨o1, o2, o3, o4, o5⟩ := openS_ok h
  obtain ⟨r1, r2, r3, r4, r5⟩ := openS_ok hM
  have hpq : ∀ i, pzB L.f L.S i = true → pzB L.f (L.S ++ [s]) i = true := fun i hi => pz_more.2 (.inl hi)
  have hge : nthU (pzB L.f L.S) L.f N ≤ nthU (pzB L.f (L.S ++ [s])) L.f N := by
    rcases Nat.eq_zero_or_pos N with h0 | h0
    · subst h0; exact Int.le_refl _
    · rcases Int.lt_or_le (nthU (pzB L.f (L.S ++ [s])) L.f N) (nthU (pzB L.f L.S) L.f N) with c | c
      · have c1 := cntU_anti (p := pzB L.f L.S) (q := pzB L.f (L.S ++ [s])) L.f (nthU (pzB L.f (L.S ++ [s])) L.f N - L.f).toNat (fun i _ _ => hpq i)
        have c2 := cntU_lt (p := pzB L.f L.S) L.f (k := (nthU (pzB L.f (L.S ++ [s])) L.f N - L.f).toNat) (j := (nthU (pzB L.f L.S) L.f N - L.f).toNat) (by omega) (by
          rw [show L.f + ((nthU (pzB L.f L.S) L.f N - L.f).toNat : Int) = nthU (pzB L.f L.S) L.f N by omega]
          exact a3 h0)
        omega
      · exact c
  have hle : (openS (pzB L.f L.S) l (nthU (pzB L.f L.S) L.f N)).1 ≤ (openS (pzB L.f (L.S ++ [s])) l (nthU (pzB L.f (L.S ++ [s])) L.f N)).1 := by
    rcases Int.lt_or_le (openS (pzB L.f (L.S ++ [s])) l (nthU (pzB L.f (L.S ++ [s])) L.f N)).1 (openS (pzB L.f L.S) l (nthU (pzB L.f L.S) L.f N)).1 with c | c
    · rcases o5 _ (by omega) c with c2 | c2
      · rw [hpq _ c2] at r3; cases r3
      · rw [c2] at r4; cases r4
    · exact c
  refine ⟨hle, fun hn => ?_⟩
  have heq : ∀ i, i ≤ (openS (pzB L.f L.S) l (nthU (pzB L.f L.S) L.f N)).1 → pzB L.f (L.S ++ [s]) i = pzB L.f L.S i := fun i hi => by
    cases hc : pzB L.f (L.S ++ [s]) i with
    | false =>
      cases hd : pzB L.f L.S i with
      | false => rfl
      | true => rw [hpq i hd] at hc; cases hc
    | true =>
      rcases pz_more.1 hc with h4 | ⟨h4, h5, h6⟩
      · exact h4.symm
      · rcases hn i h5 h6 with h7 | h7 | h7
        · omega
        · omega
        · exact h7.symm
  have hnn : nthU (pzB L.f (L.S ++ [s])) L.f N = nthU (pzB L.f L.S) L.f N := by
    refine nthU_uniq hqf (by omega) (fun h0 => by subst h0; rfl) (fun h0 => by rw [heq _ o1]; exact a3 h0) ?_
    exact (cntU_congr (p := pzB L.f (L.S ++ [s])) (q := pzB L.f L.S) L.f (nthU (pzB L.f L.S) L.f N - L.f).toNat (fun i _ h8 => heq i (by omega))).trans a2
  rw [hnn] at r1 r5 hle ⊢
  rcases Int.lt_or_le (openS (pzB L.f L.S) l (nthU (pzB L.f L.S) L.f N)).1 (openS (pzB L.f (L.S ++ [s])) l (nthU (pzB L.f L.S) L.f N)).1 with c | c
  · rcases r5 _ o1 c with c2 | c2
    · rw [heq _ (Int.le_refl _), o3] at c2; cases c2
    · rw [o4] at c2; cases c2
  · omega
/-- Whether none of the first k days of a stop counts. -/
def nonB (a f : Int) (S : List Stp2) (lo : Int) : Nat → Bool
  | 0 => true
  | k + 1 => nonB a f S lo k && (decide (a < lo + (k : Int)) || decide (lo + (k : Int) ≤ f) || pzB f S (lo + (k : Int)))
theorem nonB_all {a f : Int} {S : List Stp2} {lo : Int} : ∀ k : Nat, nonB a f S lo k = true → ∀ i, lo ≤ i → i < lo + (k : Int) → a < i ∨ i ≤ f ∨ pzB f S i = true
  | 0, _, i, h1, h2 => by omega
  | k + 1, h, i, h1, h2 => by
    have h : (nonB a f S lo k && (decide (a < lo + (k : Int)) || decide (lo + (k : Int) ≤ f) || pzB f S (lo + (k : Int)))) = true := h
    rw [Bool.and_eq_true, Bool.or_eq_true, Bool.or_eq_true, decide_eq_true_eq, decide_eq_true_eq] at h
    by_cases hi : i = lo + (k : Int)
    · rw [hi]
      rcases h.2 with (h3 | h3) | h3
      · exact .inl h3
      · exact .inr (.inl h3)
      · exact .inr (.inr h3)
    · exact nonB_all k h.1 i h1 (by omega)
end Go.Proofs.Ytogjcejiojmmbaa
