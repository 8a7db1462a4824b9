/- How far the last day of a short limit lies from its first day. A further stop: the last day comes not earlier. What Change can return. -/
import Derived.Test.YtebdkmlganalaaaGreatDoorKTopAccruedGBL
namespace Go.Proofs.YtebdkmlganalaaaGreatDoor
open Go.RowKit Go.Shelf Lim

/-- How many of the k days behind a have p. -/
def cT (p : Int → Bool) (a : Int) : Nat → Nat
  | 0 => 0
  | k + 1 => cT p a k + if p (a + 1 + (k : Int)) = true then 1 else 0
section
variable {p q r : Int → Bool}
theorem cT_cntU (p : Int → Bool) (a : Int) : ∀ k : Nat, cntU p a k + cT p a k = k
  | 0 => rfl
  | k + 1 => by
    have ih := cT_cntU p a k
    show cntU p a k + (if p (a + 1 + (k : Int)) = true then 0 else 1) + (cT p a k + if p (a + 1 + (k : Int)) = true then 1 else 0) = k + 1
    split <;> omega
theorem cT_add (p : Int → Bool) (a : Int) (k : Nat) : ∀ j, cT p a (k + j) = cT p a k + cT p (a + k) j
  | 0 => rfl
  | j + 1 => by
    have ih := cT_add p a k j
    have e : a + 1 + ((k + j : Nat) : Int) = a + k + 1 + (j : Int) := by omega
    have e1 : cT p a (k + j + 1) = cT p a (k + j) + if p (a + 1 + ((k + j : Nat) : Int)) = true then 1 else 0 := rfl
    have e2 : cT p (a + k) (j + 1) = cT p (a + k) j + if p (a + k + 1 + (j : Int)) = true then 1 else 0 := rfl
    rw [← Nat.add_assoc, e1, e2, ih, e]
    omega
theorem cT_or (h : ∀ x, r x = true → p x = true ∨ q x = true) (a : Int) : ∀ k : Nat, cT r a k ≤ cT p a k + cT q a k
  | 0 => Nat.le_refl _
  | k + 1 => by
    have ih := cT_or h a k
    have h1 := h (a + 1 + (k : Int))
    show cT r a k + (if r (a + 1 + (k : Int)) = true then 1 else 0) ≤ cT p a k + (if p (a + 1 + (k : Int)) = true then 1 else 0) + (cT q a k + if q (a + 1 + (k : Int)) = true then 1 else 0)
    by_cases hr : r (a + 1 + (k : Int)) = true
    · rw [if_pos hr]
      rcases h1 hr with h2 | h2
      · rw [if_pos h2]; omega
      · rw [if_pos h2]; omega
    · rw [if_neg hr]; omega
theorem cT_all (a : Int) : ∀ k : Nat, (∀ i : Int, a + 1 ≤ i → i < a + 1 + (k : Int) → p i = true) → cT p a k = k
  | 0, _ => rfl
  | k + 1, h => by
    show cT p a k + (if p (a + 1 + (k : Int)) = true then 1 else 0) = k + 1
    rw [h (a + 1 + (k : Int)) (by omega) (by omega), cT_all a k (fun i h1 h2 => h i h1 (by omega))]
    rfl
theorem cT_none (a : Int) : ∀ k : Nat, (∀ i : Int, p i = false) → cT p a k = 0
  | 0, _ => rfl
  | k + 1, h => by
    show cT p a k + (if p (a + 1 + (k : Int)) = true then 1 else 0) = 0
    rw [h, cT_none a k h]
    rfl
end
theorem cT_in (s : Stp2) (a : Int) : ∀ k : Nat, (cT (inS s) a k : Int) ≤ max 0 (min s.2 (a + 1 + k) - s.1)
  | 0 => by show (0 : Int) ≤ _; omega
  | k + 1 => by
    have ih := cT_in s a k
    show ((cT (inS s) a k + (if inS s (a + 1 + (k : Int)) = true then 1 else 0) : Nat) : Int) ≤ _
    by_cases h : inS s (a + 1 + (k : Int)) = true
    · rw [if_pos h]
      have := inS_iff.1 h
      omega
    · rw [if_neg h]
      omega
theorem cT_any : ∀ {S : List Stp2}, (∀ s ∈ S, psB s = true) → ∀ (a : Int) (k : Nat), (cT (anyS S) a k : Int) ≤ smS S
  | [], _, a, k => by rw [cT_none (p := anyS []) a k (fun i => rfl)]; exact Int.le_refl _
  | s :: S, h, a, k => by
    have ih := cT_any (S := S) (fun t ht => h t (.tail _ ht)) a k
    have h1 := cT_in s a k
    have h2 := cT_or (r := anyS (s :: S)) (p := inS s) (q := anyS S) (fun x hx => by
      have e : anyS (s :: S) x = (inS s x || anyS S x) := rfl
      rw [e, Bool.or_eq_true] at hx
      exact hx) a k
    have hs := h s (.head _)
    have e : smS (s :: S) = (s.2 - s.1) + smS S := by
      show (if psB s = true then s.2 - s.1 else 0) + smS S = _
      rw [if_pos hs]
    have h3 := psB_iff.1 hs
    rw [e]
    omega
theorem cT_pz {S : List Stp2} (hS : ∀ s ∈ S, psB s = true) (f a : Int) (k : Nat) : (cT (pzB f S) a k : Int) ≤ smS S := by
  have h1 := cT_any hS a k
  have h2 := cT_or (r := pzB f S) (p := anyS S) (q := fun _ => false) (fun x hx => by
    unfold pzB at hx
    rw [Bool.and_eq_true] at hx
    exact .inl hx.2) a k
  rw [cT_none a k (p := fun _ => false) (fun _ => rfl)] at h2
  omega
theorem cT_mem : ∀ (l : List Int) (a : Int) (k : Nat), cT (fun x => decide (x ∈ l)) a k ≤ l.length
  | [], a, k => by rw [cT_none (p := fun x => decide (x ∈ ([] : List Int))) a k (fun i => by simp)]; exact Nat.le_refl _
  | y :: l, a, k => by
    have ih := cT_mem l a k
    have h1 := cT_in (y, y + 1) a k
    have h2 := cT_or (r := fun x => decide (x ∈ y :: l)) (p := inS (y, y + 1)) (q := fun x => decide (x ∈ l)) (fun x hx => by
      have hx := of_decide_eq_true hx
      cases hx with
      | head => exact .inl (inS_iff.2 ⟨Int.le_refl _, by show y < y + 1; omega⟩)
      | tail _ h => exact .inr (decide_eq_true h)) a k
    simp only at h1
    rw [List.length_cons]
    omega
/-- Saturdays and Sundays. -/
def wkE (x : Int) : Bool := decide (4 < (x + 5) % 7)
theorem cT_wk7 (a : Int) : cT wkE a 7 = 2 := by
  have h : ∀ r : Fin 7, cT wkE (r.val : Int) 7 = 2 := by decide
  have key : ∀ k : Nat, cT wkE a k = cT wkE (a % 7) k := by
    intro k
    induction k with
    | zero => rfl
    | succ k ih =>
      show cT wkE a k + (if wkE (a + 1 + (k : Int)) = true then 1 else 0) = cT wkE (a % 7) k + (if wkE (a % 7 + 1 + (k : Int)) = true then 1 else 0)
      have e : wkE (a + 1 + (k : Int)) = wkE (a % 7 + 1 + (k : Int)) := by
        unfold wkE
        have : (a + 1 + (k : Int) + 5) % 7 = (a % 7 + 1 + (k : Int) + 5) % 7 := by omega
        rw [this]
      rw [ih, e]
  have h7 := h ⟨(a % 7).toNat, by omega⟩
  have e : (((a % 7).toNat : Nat) : Int) = a % 7 := by omega
  rw [key]
  rw [← e]
  exact h7
theorem cT_wk (a : Int) : ∀ m : Nat, cT wkE a (7 * m) = 2 * m
  | 0 => rfl
  | m + 1 => by
    rw [show 7 * (m + 1) = 7 * m + 7 by omega, cT_add, cT_wk a m, cT_wk7]
    omega
/-- In a window of 7 m days that are days of the calendar, all paused or not open: m is small. -/
theorem win {p : Int → Bool} {l : List Int} {x : Int} {m : Nat} (P : Int) (hp : ∀ (a : Int) (k : Nat), (cT p a k : Int) ≤ P) (h : ∀ i, x ≤ i → i < x + 7 * (m : Int) → isB i = true ∧ (p i = true ∨ opB l i = false)) : 5 * (m : Int) ≤ P + l.length := by
  have h1 := hp (x - 1) (7 * m)
  have h2 := cT_mem l (x - 1) (7 * m)
  have h3 := cT_wk (x - 1) m
  let bad : Int → Bool := fun i => isB i && (p i || !opB l i)
  have h4 : cT bad (x - 1) (7 * m) = 7 * m := cT_all (p := bad) (x - 1) (7 * m) (fun i g1 g2 => by
    obtain ⟨b1, b2⟩ := h i (by omega) (by omega)
    show (isB i && (p i || !opB l i)) = true
    rw [b1]
    rcases b2 with b2 | b2 <;> rw [b2] <;> simp)
  have h5 := cT_or (r := bad) (p := p) (q := fun i => wkE i || decide (i ∈ l)) (fun i hi => by
    have hi : (isB i && (p i || !opB l i)) = true := hi
    rw [Bool.and_eq_true, Bool.or_eq_true] at hi
    obtain ⟨b1, b2⟩ := hi
    rcases b2 with b2 | b2
    · exact .inl b2
    · refine .inr ?_
      unfold opB wkd at b2
      rw [b1] at b2
      simp only [Bool.true_and, if_true, Bool.not_and, Bool.not_not, Bool.or_eq_true, Bool.not_eq_true', decide_eq_false_iff_not, decide_eq_true_eq] at b2
      show (wkE i || decide (i ∈ l)) = true
      rw [Bool.or_eq_true]
      rcases b2 with b2 | b2
      · left; unfold wkE; exact decide_eq_true (by omega)
      · right; exact decide_eq_true b2) (x - 1) (7 * m)
  have h6 := cT_or (r := fun i => wkE i || decide (i ∈ l)) (p := wkE) (q := fun i => decide (i ∈ l)) (fun i hi => by
    rw [Bool.or_eq_true] at hi
    exact hi) (x - 1) (7 * m)
  omega
theorem win0 {l : List Int} {x y : Int} (h0 : 0 ≤ x) (h1 : y ≤ 1000001) (hl : l.length ≤ 300) (h : ∀ i, x ≤ i → i < y → opB l i = false) : y - x ≤ 427 := by
  rcases Int.lt_or_le (y - x) 427 with c | c
  · omega
  · have := win (p := fun _ => false) (l := l) (x := x) (m := 61) 0 (fun a k => by rw [cT_none a k (p := fun _ => false) (fun _ => rfl)]; exact Int.le_refl _)
      (fun i g1 g2 => ⟨(isB_iff i).2 (by omega), .inr (h i g1 (by omega))⟩)
    omega
theorem win1 {p : Int → Bool} {l : List Int} {x y : Int} (hp : ∀ (a : Int) (k : Nat), (cT p a k : Int) ≤ 2000) (h0 : 0 ≤ x) (h1 : y ≤ 1000001) (hl : l.length ≤ 300) (h : ∀ i, x ≤ i → i < y → p i = true ∨ opB l i = false) : y - x ≤ 3227 := by
  rcases Int.lt_or_le (y - x) 3227 with c | c
  · omega
  · have := win (p := p) (l := l) (x := x) (m := 461) 2000 hp (fun i g1 g2 => ⟨(isB_iff i).2 (by omega), h i g1 (by omega)⟩)
    omega
theorem cntS_cT (l : List Int) (a : Int) : ∀ k : Nat, cntS l a k + cT (fun i => !opB l i) a k = k
  | 0 => rfl
  | k + 1 => by
    have ih := cntS_cT l a k
    show cntS l a k + (if opB l (a + 1 + (k : Int)) = true then 1 else 0) + (cT (fun i => !opB l i) a k + if (!opB l (a + 1 + (k : Int))) = true then 1 else 0) = k + 1
    cases opB l (a + 1 + (k : Int)) <;> simp <;> omega
theorem nthS_near {l : List Int} {x : Int} {k : Nat} (h0 : 0 ≤ x) (hk : k ≤ 3000) (hl : l.length ≤ 300) (h : isB (nthS l k x) = true) : nthS l k x - x ≤ 4627 := by
  have hc := nthS_cnt l x k h
  have hle := nthS_le l x k
  have hb := (isB_iff _).1 h
  generalize nthS l k x = y at *
  rcases Int.lt_or_le (y - x) 4627 with c | c
  · omega
  · obtain ⟨j, hj⟩ : ∃ j : Nat, (y - x).toNat = 7 * 661 + j := ⟨(y - x).toNat - 4627, by omega⟩
    rw [hj, cntS_add] at hc
    have h1 := cntS_cT l x (7 * 661)
    have h2 := cT_mem l x (7 * 661)
    have h3 := cT_wk x 661
    have h6 := cT_or (r := fun i => isB i && !opB l i) (p := wkE) (q := fun i => decide (i ∈ l)) (fun i b2 => by
      rw [Bool.and_eq_true] at b2
      obtain ⟨b1, b2⟩ := b2
      unfold opB wkd at b2
      rw [b1] at b2
      simp only [Bool.true_and, if_true, Bool.not_and, Bool.not_not, Bool.or_eq_true, Bool.not_eq_true', decide_eq_false_iff_not, decide_eq_true_eq] at b2
      rcases b2 with b2 | b2
      · left; unfold wkE; exact decide_eq_true (by omega)
      · right; exact decide_eq_true b2) x (7 * 661)
    have h7 : ∀ k : Nat, x + (k : Int) ≤ 1000000 → cT (fun i => !opB l i) x k = cT (fun i => isB i && !opB l i) x k := by
      intro k
      induction k with
      | zero => intro _; rfl
      | succ k ih =>
        intro hk
        have ih := ih (by omega)
        show cT (fun i => !opB l i) x k + (if (!opB l (x + 1 + (k : Int))) = true then 1 else 0) = cT (fun i => isB i && !opB l i) x k + (if (isB (x + 1 + (k : Int)) && !opB l (x + 1 + (k : Int))) = true then 1 else 0)
        rw [ih, (isB_iff (x + 1 + (k : Int))).2 (by omega)]
        rfl
    rw [h7 _ (by omega)] at h1
    omega
theorem beg_near {y Y : Int} (h : Y ≤ y + 14) : beg Y - beg y ≤ 5200 := by
  have := beg_mono h
  have e : beg (y + 14) - beg y ≤ 5200 := by unfold beg; omega
  omega
theorem monS_near {y m d n : Int} (hv : Vd y m d) (hn : 0 ≤ n) (hn1 : n ≤ 150) (h : (monS y m d n).2 = 0) : (monS y m d n).1 - num y m d ≤ 5200 := by
  unfold monS at h ⊢
  split at h
  · cases h
  · rename_i h1
    rw [if_neg h1]
    obtain ⟨hv2, he, -, -⟩ := dayS_ok h
    rw [he]
    have a1 := num_in hv
    have a2 := num_in hv2
    obtain ⟨y1, y2, m1, m2, d1, d2⟩ := hv
    generalize hY : (n + (12 * y + m - 1)) / 12 = Y at *
    generalize hM : (n + (12 * y + m - 1)) % 12 + 1 = M at *
    have := beg_near (y := y) (Y := Y + 1) (by omega)
    omega
/-- The end of a short term is near. -/
theorem add_near {l : List Int} {f n u : Int} (h : (addS l f n u).2 = 0) (hl : l.length ≤ 300) (hs : shB n u = true) : (addS l f n u).1 - f ≤ 5627 := by
  obtain ⟨h1, h2, h3, h4, h5, h6, p, h7, h8, h9, h10⟩ := addS_ok h
  rw [h9]
  obtain ⟨f0, f1⟩ := (isB_iff _).1 h1
  obtain ⟨p0, p1⟩ := (isB_iff _).1 h8
  obtain ⟨g0, g1⟩ := (isB_iff _).1 h10
  have hw := win0 (l := l) (x := p) (y := fromS l p) p0 (by omega) hl (fun i a b => (fromS_no l (x := p) (i := i) a b).2.2)
  have hv := ymd_of h1
  have hn : n ≤ mostU u := by
    unfold shB at hs
    rw [Bool.or_eq_true, decide_eq_true_eq, decide_eq_true_eq] at hs
    omega
  suffices p - f ≤ 5200 by omega
  unfold mostU at hn
  unfold stepS at h7
  by_cases u1 : u = 1
  · subst u1
    simp at h7 hn
    omega
  rw [if_neg u1] at h7
  by_cases u2 : u = 2
  · subst u2
    simp at h7 hn
    omega
  rw [if_neg u2] at h7
  by_cases u3 : u = 3
  · subst u3
    rw [if_pos rfl] at h7
    simp at hn
    have := monS_near (n := n) hv.1 h4 hn (by rw [h7])
    rw [h7, hv.2] at this
    exact this
  rw [if_neg u3] at h7
  by_cases u4 : u = 4
  · subst u4
    rw [if_pos rfl] at h7
    simp at hn
    have := monS_near (n := 12 * n) hv.1 (by omega) (by omega) (by rw [h7])
    rw [h7, hv.2] at this
    exact this
  rw [if_neg u4] at h7
  have u5 : u = 5 := by omega
  subst u5
  simp at hn
  injection h7 with h7 _
  have := nthS_near (l := l) (x := f) (k := n.toNat) f0 (by omega) hl (by rw [h7]; exact h8)
  rw [h7] at this
  omega
/-- What LimitLast asks of the last day. -/
theorem last_day {L : Lm} {l : List Int} (h : (dueS L l).2 = 0) (hf : frB L l.length = true) :
    (addS l L.f L.n L.u).2 = 0 ∧ L.f ≤ (addS l L.f L.n L.u).1 ∧ (addS l L.f L.n L.u).1 ≤ (dueS L l).1 ∧ opB l (dueS L l).1 = true ∧ pzB L.f L.S (dueS L l).1 = false ∧ (dueS L l).1 - L.f ≤ 20000 ∧ 0 ≤ L.f ∧ (dueS L l).1 ≤ 1000000 ∧
      (addS l L.f L.n L.u).1 - L.f ≤ (cntU (pzB L.f L.S) L.f ((dueS L l).1 - L.f).toNat : Int) := by
  obtain ⟨-, -, hsm, hsh, hm⟩ := frB_iff.1 hf
  obtain ⟨hp, hfb, hd1, hd2⟩ := due_day h
  obtain ⟨-, -, -, -, hS⟩ := prB_iff.1 hp
  obtain ⟨f0, f1⟩ := (isB_iff _).1 hfb
  unfold dueS at h hd1 hd2 ⊢
  rw [hp, if_pos rfl] at h hd1 hd2 ⊢
  by_cases ha : (addS l L.f L.n L.u).2 = 0
  · rw [if_pos ha] at h hd1 hd2 ⊢
    obtain ⟨g1, g2, g3⟩ := add_ge ha
    have hnear := add_near ha hm hsh
    obtain ⟨o1, o2, o3, o4, o5⟩ := openS_ok h
    obtain ⟨n1, n2, -⟩ := nthU_spec (pz_far (f := L.f) hS) L.f ((addS l L.f L.n L.u).1 - L.f).toNat
    have hcp := cT_cntU (pzB L.f L.S) L.f (nthU (pzB L.f L.S) L.f ((addS l L.f L.n L.u).1 - L.f).toNat - L.f).toNat
    have hcz := cT_pz hS L.f L.f (nthU (pzB L.f L.S) L.f ((addS l L.f L.n L.u).1 - L.f).toNat - L.f).toNat
    generalize nthU (pzB L.f L.S) L.f ((addS l L.f L.n L.u).1 - L.f).toNat = N at *
    have hw := win1 (p := pzB L.f L.S) (l := l) (x := N) (y := (openS (pzB L.f L.S) l N).1) (fun a k => Int.le_trans (cT_pz hS L.f a k) hsm) (by omega) (by omega) hm o5
    have hmono := cntU_mono (p := pzB L.f L.S) L.f (k := (N - L.f).toNat) (j := ((openS (pzB L.f L.S) l N).1 - L.f).toNat) (by omega)
    exact ⟨ha, g1, by omega, o4, o3, by omega, f0, o2, by omega⟩
  · rw [if_neg ha] at h
    exact absurd h ha
end Go.Proofs.YtebdkmlganalaaaGreatDoor

namespace Go.Proofs.YtebdkmlganalaaaGreatDoor
open Go.RowKit Go.Shelf

theorem pz_more {f : Int} {S : List Stp2} {s : Stp2} {x : Int} : pzB f (S ++ [s]) x = true ↔ pzB f S x = true ∨ (f < x ∧ s.1 ≤ x ∧ x < s.2) := by
  rw [pzB_iff, pzB_iff]
  constructor
  · rintro ⟨h1, t, ht, h2⟩
    rcases List.mem_append.1 ht with h3 | h3
    · exact .inl ⟨h1, t, h3, h2⟩
    · simp only [List.mem_cons, List.not_mem_nil, or_false] at h3
      subst h3
      exact .inr ⟨h1, h2⟩
  · rintro (⟨h1, t, ht, h2⟩ | ⟨h1, h2⟩)
    · exact ⟨h1, t, List.mem_append_left _ ht, h2⟩
    · exact ⟨h1, s, by simp, h2⟩
/-- What a last day is. -/
theorem due_is {L : Lm} {l : List Int} (h : (dueS L l).2 = 0) : prB L = true ∧ (addS l L.f L.n L.u).2 = 0 ∧ dueS L l = openS (pzB L.f L.S) l (nthU (pzB L.f L.S) L.f ((addS l L.f L.n L.u).1 - L.f).toNat) := by
  unfold dueS at h ⊢
  cases hp : prB L with
  | false => rw [hp, if_neg (by simp)] at h; cases h
  | true =>
    rw [hp, if_pos rfl] at h
    rw [if_pos rfl]
    by_cases ha : (addS l L.f L.n L.u).2 = 0
    · rw [if_pos ha]
      exact ⟨rfl, ha, rfl⟩
    · rw [if_neg ha] at h
      exact absurd h ha
theorem stops_err {L : Lm} {s : Stp2} {l : List Int} (h : (dueS L l).2 = 0) (hs : psB s = true) (hl : L.S.length ≤ 9) : (dueS ⟨L.id, L.n, L.u, L.f, L.S ++ [s]⟩ l).2 = 0 ∨ (dueS ⟨L.id, L.n, L.u, L.f, L.S ++ [s]⟩ l).2 = 10 := by
  obtain ⟨h1, h2, -⟩ := due_is h
  have hp : prB ⟨L.id, L.n, L.u, L.f, L.S ++ [s]⟩ = true := by
    obtain ⟨a, b, c, d, g⟩ := prB_iff.1 h1
    exact prB_iff.2 ⟨a, b, c, by show (L.S ++ [s]).length ≤ 60; simp; omega, fun t ht => by
      rcases List.mem_append.1 ht with h3 | h3
      · exact g t h3
      · simp only [List.mem_cons, List.not_mem_nil, or_false] at h3
        rw [h3]; exact hs⟩
  unfold dueS
  rw [hp, if_pos rfl, if_pos h2]
  rcases Classical.em ((openS (pzB L.f (L.S ++ [s])) l (nthU (pzB L.f (L.S ++ [s])) L.f ((addS l L.f L.n L.u).1 - L.f).toNat)).2 = 0) with h3 | h3
  · exact .inl h3
  · exact .inr (by rw [(openS_err h3).1])
theorem stops_ge {L : Lm} {s : Stp2} {l : List Int} (h : (dueS L l).2 = 0) (hM : (dueS ⟨L.id, L.n, L.u, L.f, L.S ++ [s]⟩ l).2 = 0) :
    (dueS L l).1 ≤ (dueS ⟨L.id, L.n, L.u, L.f, L.S ++ [s]⟩ l).1 ∧
      ((∀ i, s.1 ≤ i → i < s.2 → (dueS L l).1 < i ∨ i ≤ L.f ∨ pzB L.f L.S i = true) → (dueS L l).1 = (dueS ⟨L.id, L.n, L.u, L.f, L.S ++ [s]⟩ l).1) := by
  obtain ⟨h1, h2, h3⟩ := due_is h
  obtain ⟨m1, m2, m3⟩ := due_is hM
  rw [h3] at h ⊢
  rw [m3] at hM ⊢
  obtain ⟨g1, g2, g3⟩ := add_ge h2
  obtain ⟨-, -, -, -, hS⟩ := prB_iff.1 h1
  obtain ⟨-, -, -, -, hT⟩ := prB_iff.1 m1
  have hpf := pz_far (f := L.f) hS
  have hqf := pz_far (f := L.f) hT
  simp only at hM hqf ⊢
  obtain ⟨N, hN⟩ : ∃ N : Nat, ((addS l L.f L.n L.u).1 - L.f).toNat = N := ⟨_, rfl⟩
  rw [hN] at h hM ⊢
  obtain ⟨a1, a2, a3⟩ := nthU_spec hpf L.f N
  obtain ⟨b1, b2, b3⟩ := nthU_spec hqf L.f N
  obtain ⟨o1, o2, o3, o4, o5⟩ := openS_ok h
  obtain ⟨r1, r2, r3, r4, r5⟩ := openS_ok hM
  have hpq : ∀ i, pzB L.f L.S i = true → pzB L.f (L.S ++ [s]) i = true := fun i hi => pz_more.2 (.inl hi)
  have hge : nthU (pzB L.f L.S) L.f N ≤ nthU (pzB L.f (L.S ++ [s])) L.f N := by
    rcases Nat.eq_zero_or_pos N with h0 | h0
    · subst h0; exact Int.le_refl _
    · rcases Int.lt_or_le (nthU (pzB L.f (L.S ++ [s])) L.f N) (nthU (pzB L.f L.S) L.f N) with c | c
      · have c1 := cntU_anti (p := pzB L.f L.S) (q := pzB L.f (L.S ++ [s])) L.f (nthU (pzB L.f (L.S ++ [s])) L.f N - L.f).toNat (fun i _ _ => hpq i)
        have c2 := cntU_lt (p := pzB L.f L.S) L.f (k := (nthU (pzB L.f (L.S ++ [s])) L.f N - L.f).toNat) (j := (nthU (pzB L.f L.S) L.f N - L.f).toNat) (by omega) (by
          rw [show L.f + ((nthU (pzB L.f L.S) L.f N - L.f).toNat : Int) = nthU (pzB L.f L.S) L.f N by omega]
          exact a3 h0)
        omega
      · exact c
  have hle : (openS (pzB L.f L.S) l (nthU (pzB L.f L.S) L.f N)).1 ≤ (openS (pzB L.f (L.S ++ [s])) l (nthU (pzB L.f (L.S ++ [s])) L.f N)).1 := by
    rcases Int.lt_or_le (openS (pzB L.f (L.S ++ [s])) l (nthU (pzB L.f (L.S ++ [s])) L.f N)).1 (openS (pzB L.f L.S) l (nthU (pzB L.f L.S) L.f N)).1 with c | c
    · rcases o5 _ (by omega) c with c2 | c2
      · rw [hpq _ c2] at r3; cases r3
      · rw [c2] at r4; cases r4
    · exact c
  refine ⟨hle, fun hn => ?_⟩
  have heq : ∀ i, i ≤ (openS (pzB L.f L.S) l (nthU (pzB L.f L.S) L.f N)).1 → pzB L.f (L.S ++ [s]) i = pzB L.f L.S i := fun i hi => by
    cases hc : pzB L.f (L.S ++ [s]) i with
    | false =>
      cases hd : pzB L.f L.S i with
      | false => rfl
      | true => rw [hpq i hd] at hc; cases hc
    | true =>
      rcases pz_more.1 hc with h4 | ⟨h4, h5, h6⟩
      · exact h4.symm
      · rcases hn i h5 h6 with h7 | h7 | h7
        · omega
        · omega
        · exact h7.symm
  have hnn : nthU (pzB L.f (L.S ++ [s])) L.f N = nthU (pzB L.f L.S) L.f N := by
    refine nthU_uniq hqf (by omega) (fun h0 => by subst h0; rfl) (fun h0 => by rw [heq _ o1]; exact a3 h0) ?_
    exact (cntU_congr (p := pzB L.f (L.S ++ [s])) (q := pzB L.f L.S) L.f (nthU (pzB L.f L.S) L.f N - L.f).toNat (fun i _ h8 => heq i (by omega))).trans a2
  rw [hnn] at r1 r5 hle ⊢
  rcases Int.lt_or_le (openS (pzB L.f L.S) l (nthU (pzB L.f L.S) L.f N)).1 (openS (pzB L.f (L.S ++ [s])) l (nthU (pzB L.f L.S) L.f N)).1 with c | c
  · rcases r5 _ o1 c with c2 | c2
    · rw [heq _ (Int.le_refl _), o3] at c2; cases c2
    · rw [o4] at c2; cases c2
  · omega
/-- Whether none of the first k days of a stop counts. -/
def nonB (a f : Int) (S : List Stp2) (lo : Int) : Nat → Bool
  | 0 => true
  | k + 1 => nonB a f S lo k && (decide (a < lo + (k : Int)) || decide (lo + (k : Int) ≤ f) || pzB f S (lo + (k : Int)))
theorem nonB_all {a f : Int} {S : List Stp2} {lo : Int} : ∀ k : Nat, nonB a f S lo k = true → ∀ i, lo ≤ i → i < lo + (k : Int) → a < i ∨ i ≤ f ∨ pzB f S i = true
  | 0, _, i, h1, h2 => by omega
  | k + 1, h, i, h1, h2 => by
    have h : (nonB a f S lo k && (decide (a < lo + (k : Int)) || decide (lo + (k : Int) ≤ f) || pzB f S (lo + (k : Int)))) = true := h
    rw [Bool.and_eq_true, Bool.or_eq_true, Bool.or_eq_true, decide_eq_true_eq, decide_eq_true_eq] at h
    by_cases hi : i = lo + (k : Int)
    · rw [hi]
      rcases h.2 with (h3 | h3) | h3
      · exact .inl h3
      · exact .inr (.inl h3)
      · exact .inr (.inr h3)
    · exact nonB_all k h.1 i h1 (by omega)
end Go.Proofs.YtebdkmlganalaaaGreatDoor

namespace Go.Proofs.YtebdkmlganalaaaGreatDoor
open Go.RowKit Go.Shelf

theorem due_end {L : Lm} {l : List Int} (h : (dueS L l).2 = 0) : (addS l L.f L.n L.u).1 ≤ (dueS L l).1 := by
  obtain ⟨h1, h2, h3⟩ := due_is h
  rw [h3] at h ⊢
  obtain ⟨g1, -, -⟩ := add_ge h2
  obtain ⟨-, -, -, -, hS⟩ := prB_iff.1 h1
  obtain ⟨a1, -, -⟩ := nthU_spec (pz_far (f := L.f) hS) L.f ((addS l L.f L.n L.u).1 - L.f).toNat
  obtain ⟨o1, -⟩ := openS_ok h
  omega
theorem due_days {id : ByteArray} {n f : Int} {S : List Stp2} {l : List Int} (h : (dueS ⟨id, n, 1, f, S⟩ l).2 = 0) : f + n ≤ (dueS ⟨id, n, 1, f, S⟩ l).1 := by
  have h1 := due_end h
  obtain ⟨-, h2, -⟩ := due_is h
  simp only at h1 h2
  obtain ⟨-, -, -, -, -, -, p, h7, -, h9, -⟩ := addS_ok h2
  unfold stepS at h7
  rw [if_pos rfl] at h7
  injection h7 with h7 _
  have := fromS_le l p
  omega
theorem change_cases (L : Lm) (day n u least : Int) (l : List Int) :
    (∃ f, f ≠ 0 ∧ changeS L day n u least l = (Lm.zero, f)) ∨
    ((dueS L l).2 = 0 ∧ (dueS L l).1 < day ∧ changeS L day n u least l = (L, 0)) ∨
    ((dueS L l).2 = 0 ∧ ¬ (dueS L l).1 < day ∧ 0 ≤ day ∧ day ≤ 1000000 ∧ 0 ≤ least ∧ least ≤ 1000000 ∧ ∃ N U F, changeS L day n u least l = (⟨L.id, N, U, F, L.S⟩, 0) ∧ (dueS ⟨L.id, N, U, F, L.S⟩ l).2 = 0 ∧ day + least ≤ (dueS ⟨L.id, N, U, F, L.S⟩ l).1 ∧
      (dueS ⟨L.id, n, u, L.f, L.S⟩ l).2 = 0 ∧ ((dueS ⟨L.id, n, u, L.f, L.S⟩ l).1 < day + least ∨ (N = n ∧ U = u ∧ F = L.f))) := by
  unfold changeS
  by_cases h1 : prB L = false ∨ isB day = false ∨ ptB n u = false ∨ least < 0 ∨ 1000000 < least
  · rw [if_pos h1]; exact .inl ⟨1, by simp, rfl⟩
  rw [if_neg h1]
  by_cases h2 : (dueS L l).2 ≠ 0
  · rw [if_pos h2]; exact .inl ⟨_, h2, rfl⟩
  rw [if_neg h2]
  have h2 : (dueS L l).2 = 0 := Classical.not_not.1 h2
  by_cases h3 : (dueS L l).1 < day
  · rw [if_pos h3]; exact .inr (.inl ⟨h2, h3, rfl⟩)
  rw [if_neg h3]
  have hd : 0 ≤ day ∧ day ≤ 1000000 := by
    refine (isB_iff _).1 ?_
    cases hh : isB day with
    | true => rfl
    | false => exact absurd (.inr (.inl hh)) h1
  have hl : 0 ≤ least ∧ least ≤ 1000000 := by
    constructor
    · rcases Int.lt_or_le least 0 with c | c
      · exact absurd (.inr (.inr (.inr (.inl c)))) h1
      · exact c
    · rcases Int.lt_or_le 1000000 least with c | c
      · exact absurd (.inr (.inr (.inr (.inr c)))) h1
      · exact c
  by_cases h4 : (dueS ⟨L.id, n, u, L.f, L.S⟩ l).2 ≠ 0
  · rw [if_pos h4]; exact .inl ⟨_, h4, rfl⟩
  rw [if_neg h4]
  have h4 : (dueS ⟨L.id, n, u, L.f, L.S⟩ l).2 = 0 := Classical.not_not.1 h4
  by_cases h5 : (dueS ⟨L.id, n, u, L.f, L.S⟩ l).1 < day + least
  · rw [if_pos h5]
    by_cases h6 : (dueS ⟨L.id, least, 1, day, L.S⟩ l).2 ≠ 0
    · rw [if_pos h6]; exact .inl ⟨_, h6, rfl⟩
    rw [if_neg h6]
    have h6 : (dueS ⟨L.id, least, 1, day, L.S⟩ l).2 = 0 := Classical.not_not.1 h6
    exact .inr (.inr ⟨h2, h3, hd.1, hd.2, hl.1, hl.2, least, 1, day, rfl, h6, due_days h6, h4, .inl h5⟩)
  · rw [if_neg h5]
    exact .inr (.inr ⟨h2, h3, hd.1, hd.2, hl.1, hl.2, n, u, L.f, rfl, h4, by omega, h4, .inr ⟨rfl, rfl, rfl⟩⟩)

end Go.Proofs.YtebdkmlganalaaaGreatDoor
