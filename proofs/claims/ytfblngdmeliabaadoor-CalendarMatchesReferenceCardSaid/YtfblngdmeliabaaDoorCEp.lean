/- Plain laws of Add: the end is an open day, not before the beginning; how many open days lie between; a term as an argument. -/
import Derived.Test.YtfblngdmeliabaaDoorOi
import Derived.Test.YtfblngdmeliabaaDoorCz
namespace Go.Proofs.YtfblngdmeliabaaDoor
open Go.RowKit

set_option maxRecDepth 100000 in
/-- A term as an argument: two ints. -/
theorem term_at {H : Type} {enc : TypeId × Value → H} {w : World} {base : Nat} {spare : Nat → Bool} {held : Bool} {v : Value} {d : DataW H} {p : List MemPlace} {cs : Array Value}
    (hv : v = .agg cs) (hsz : cs.size = Tryd.prog.cellsOf 29)
    (h : DataW.Trod enc Tryd.prog w base spare held 29 v d p) : ∃ x : Int × Int, v = .agg #[.int .i64 x.1, .int .i64 x.2] := by
  subst hv
  have h2 : Tryd.prog.cellsOf 29 = 2 := by kernel_rfl
  rw [h2] at hsz
  obtain ⟨fuel, hf⟩ := h
  have hc : (Value.agg cs).cells.toList = cs.toList := rfl
  rw [hc] at hf
  obtain ⟨c0, c1, hcs⟩ : ∃ c0 c1, cs = #[c0, c1] := by
    obtain ⟨l⟩ := cs
    match l, hsz with
    | [c0, c1], _ => exact ⟨c0, c1, rfl⟩
  subst hcs
  obtain ⟨xs, n, _, hx, hl, hlen, hfl⟩ := DataW.trod_struct Tryd.underlying29 hf
  have g : ∀ i, i < xs.length → ∃ y, xs[i]? = some y := fun i hi => ⟨_, List.getElem?_eq_getElem hi⟩
  have hlen2 : xs.length = 2 := hlen
  obtain ⟨y0, e0⟩ := g 0 (by omega)
  obtain ⟨y1, e1⟩ := g 1 (by omega)
  have t0 := (hfl 0 _ rfl).trans e0
  have t1 := (hfl 1 _ rfl).trans e1
  obtain ⟨k0, h0, _, _⟩ := DataW.trod_int Tryd.underlying3 t0
  obtain ⟨k1, h1, _, _⟩ := DataW.trod_int Tryd.underlying3 t1
  have q0 : c0 = .int .i64 k0 := by injection h0
  have q1 : c1 = .int .i64 k1 := by injection h1
  exact ⟨(k0, k1), by rw [q0, q1]⟩

theorem addS_err {l : List Int} {day n u : Int} (h : (addS l day n u).2 ≠ 0) : (addS l day n u).1 = 0 := by
  unfold addS endS at h ⊢
  split
  · rfl
  · split
    · rfl
    · split
      · split
        · rename_i h1 h2 h3 h4
          rw [if_neg h1, if_neg h2, if_pos h3, if_pos h4] at h
          exact absurd rfl h
        · rfl
      · rfl

/-- What an Add without an error has done. -/
theorem addS_ok {l : List Int} {day n u : Int} (h : (addS l day n u).2 = 0) :
    isB day = true ∧ 1 ≤ u ∧ u ≤ 5 ∧ 0 ≤ n ∧ n ≤ 1000000 ∧ l.length ≤ 1000 ∧ ∃ p, stepS l day n u (ymd day).1 (ymd day).2.1 (ymd day).2.2 = (p, 0) ∧ isB p = true ∧ (addS l day n u).1 = fromS l p ∧ isB (fromS l p) = true := by
  unfold addS at h ⊢
  split at h
  · cases h
  · rename_i h1
    split at h
    · cases h
    · rename_i h2
      rw [if_neg h1, if_neg h2]
      have hd : isB day = true := by
        cases hh : isB day
        · exact absurd (.inl hh) h1
        · rfl
      refine ⟨hd, by omega, by omega, by omega, by omega, by omega, ?_⟩
      unfold endS at h ⊢
      split at h
      · rename_i h3
        split at h
        · rename_i h4
          rw [if_pos h3, if_pos h4]
          exact ⟨_, Prod.ext rfl h3.1, h3.2, rfl, h4⟩
        · cases h
      · cases h

theorem monS_ge {y m d n : Int} (hv : Vd y m d) (hn : 0 ≤ n) (h : (monS y m d n).2 = 0) : num y m d ≤ (monS y m d n).1 := by
  unfold monS at h ⊢
  split at h
  · cases h
  · rename_i h1
    rw [if_neg h1]
    obtain ⟨hv2, he, -, -⟩ := dayS_ok h
    rw [he]
    have a1 := num_in hv
    have a2 := num_in hv2
    have hb := beg_succ y
    have hy := hv
    obtain ⟨y1, y2, m1, m2, d1, d2⟩ := hy
    generalize hY : (n + (12 * y + m - 1)) / 12 = Y at *
    generalize hM : (n + (12 * y + m - 1)) % 12 + 1 = M at *
    have hk : n + (12 * y + m - 1) = 12 * Y + (M - 1) := by omega
    have hMr : 1 ≤ M ∧ M ≤ 12 := by omega
    rcases Int.lt_trichotomy y Y with c | c | c
    · have := beg_mono (show y + 1 ≤ Y by omega)
      omega
    · subst c
      rcases Int.lt_or_le m M with c2 | c2
      · have h3 := cum_succ y m m1 m2
        have h4 := cum_mono y (m + 1) M (by omega) (by omega) (by omega)
        obtain ⟨-, -, -, -, e1, -⟩ := hv2
        unfold num
        omega
      · have : M = m := by omega
        subst this
        have : min d (ml y M) = d := by omega
        rw [this]
        exact Int.le_refl _
    · omega

theorem nthS_le (l : List Int) (x : Int) : ∀ k, x ≤ nthS l k x
  | 0 => Int.le_refl _
  | k + 1 => by
    have ih := nthS_le l x k
    show x ≤ if isB (nthS l k x) = true then fromS l (nthS l k x + 1) else nthS l k x
    split
    · have := fromS_le l (nthS l k x + 1)
      omega
    · exact ih

/-- How many of the k days behind a offices are open on. -/
def cntS (l : List Int) (a : Int) : Nat → Nat
  | 0 => 0
  | k + 1 => cntS l a k + if opB l (a + 1 + (k : Int)) = true then 1 else 0
theorem cntS_add (l : List Int) (a : Int) (k : Nat) : ∀ j, cntS l a (k + j) = cntS l a k + cntS l (a + k) j
  | 0 => rfl
  | j + 1 => by
    have ih := cntS_add l a k j
    have e : a + 1 + ((k + j : Nat) : Int) = a + k + 1 + (j : Int) := by omega
    have e1 : cntS l a (k + j + 1) = cntS l a (k + j) + if opB l (a + 1 + ((k + j : Nat) : Int)) = true then 1 else 0 := rfl
    have e2 : cntS l (a + k) (j + 1) = cntS l (a + k) j + if opB l (a + k + 1 + (j : Int)) = true then 1 else 0 := rfl
    rw [← Nat.add_assoc, e1, e2, ih, e]
    omega
theorem cntS_no (l : List Int) (a : Int) : ∀ k : Nat, (∀ i : Int, a + 1 ≤ i → i < a + 1 + (k : Int) → opB l i = false) → cntS l a k = 0
  | 0, _ => rfl
  | k + 1, h => by
    show cntS l a k + (if opB l (a + 1 + (k : Int)) = true then 1 else 0) = 0
    rw [h (a + 1 + (k : Int)) (by omega) (by omega), cntS_no l a k (fun i h1 h2 => h i h1 (by omega))]
    rfl
theorem nthS_cnt (l : List Int) (x : Int) : ∀ k, isB (nthS l k x) = true → cntS l x (nthS l k x - x).toNat = k
  | 0, _ => by show cntS l x (x - x).toNat = 0; rw [Int.sub_self]; rfl
  | k + 1, h => by
    have hle := nthS_le l x k
    have e : nthS l (k + 1) x = if isB (nthS l k x) = true then fromS l (nthS l k x + 1) else nthS l k x := rfl
    cases hb : isB (nthS l k x) with
    | false =>
      rw [e, hb, if_neg (by simp), hb] at h
      cases h
    | true =>
      rw [e, if_pos hb] at h ⊢
      have ih := nthS_cnt l x k hb
      generalize hN : nthS l k x = N at *
      have hle2 := fromS_le l (N + 1)
      have hop := fromS_op l h
      have hno := fun i a b => (fromS_no l (x := N + 1) (i := i) a b).2.2
      generalize fromS l (N + 1) = E at *
      have e1 : (E - x).toNat = (N - x).toNat + ((E - N - 1).toNat + 1) := by omega
      have e2 : x + ((N - x).toNat : Int) = N := by omega
      rw [e1, cntS_add, ih, e2]
      show k + (cntS l N (E - N - 1).toNat + (if opB l (N + 1 + ((E - N - 1).toNat : Int)) = true then 1 else 0)) = k + 1
      have e3 : N + 1 + ((E - N - 1).toNat : Int) = E := by omega
      rw [e3, hop, cntS_no l N _ (fun i a b => hno i (by omega) (by omega))]
      rfl
theorem nthS_op (l : List Int) (x : Int) (k : Nat) (h : isB (nthS l (k + 1) x) = true) : opB l (nthS l (k + 1) x) = true := by
  have e : nthS l (k + 1) x = if isB (nthS l k x) = true then fromS l (nthS l k x + 1) else nthS l k x := rfl
  cases hb : isB (nthS l k x) with
  | false =>
    rw [e, hb, if_neg (by simp), hb] at h
    cases h
  | true =>
    rw [e, if_pos hb] at h ⊢
    exact fromS_op l h
end Go.Proofs.YtfblngdmeliabaaDoor
