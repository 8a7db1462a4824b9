/- Time limits as plain numbers, without any program: days that are not paused, counted; stops that are joined. Names, as plain lists of bytes; the small functions of package limit. -/
import Derived.Test.YtebdkmlganalaaaGreatDoorKTopAccruedGAA
import Derived.Test.YtebdkmlganalaaaGreatDoorProg
import Derived.Test.YtebdkmlganalaaaGreatDoorKTopAccruedGAE
import Derived.StillTailTactics
import Derived.IntWalk
namespace Go.Proofs.YtebdkmlganalaaaGreatDoor

/-- The number of days behind a, up to a + k, that are not paused. -/
def cntU (p : Int → Bool) (a : Int) : Nat → Nat
  | 0 => 0
  | k + 1 => cntU p a k + if p (a + 1 + (k : Int)) = true then 0 else 1

section
variable {p q : Int → Bool}
theorem cntU_add (p : Int → Bool) (a : Int) (k : Nat) : ∀ j, cntU p a (k + j) = cntU p a k + cntU p (a + k) j
  | 0 => rfl
  | j + 1 => by
    have ih := cntU_add p a k j
    have e : a + 1 + ((k + j : Nat) : Int) = a + k + 1 + (j : Int) := by omega
    have e1 : cntU p a (k + j + 1) = cntU p a (k + j) + if p (a + 1 + ((k + j : Nat) : Int)) = true then 0 else 1 := rfl
    have e2 : cntU p (a + k) (j + 1) = cntU p (a + k) j + if p (a + k + 1 + (j : Int)) = true then 0 else 1 := rfl
    rw [← Nat.add_assoc, e1, e2, ih, e]
    omega
theorem cntU_le (p : Int → Bool) (a : Int) : ∀ k, cntU p a k ≤ k
  | 0 => Nat.le_refl _
  | k + 1 => by
    have := cntU_le p a k
    show cntU p a k + (if p (a + 1 + (k : Int)) = true then 0 else 1) ≤ k + 1
    split <;> omega
theorem cntU_congr (a : Int) : ∀ k : Nat, (∀ i : Int, a + 1 ≤ i → i < a + 1 + (k : Int) → p i = q i) → cntU p a k = cntU q a k
  | 0, _ => rfl
  | k + 1, h => by
    show cntU p a k + (if p (a + 1 + (k : Int)) = true then 0 else 1) = cntU q a k + (if q (a + 1 + (k : Int)) = true then 0 else 1)
    rw [h (a + 1 + (k : Int)) (by omega) (by omega), cntU_congr a k (fun i h1 h2 => h i h1 (by omega))]
theorem cntU_free (a : Int) : ∀ k : Nat, (∀ i : Int, a + 1 ≤ i → i < a + 1 + (k : Int) → p i = false) → cntU p a k = k
  | 0, _ => rfl
  | k + 1, h => by
    show cntU p a k + (if p (a + 1 + (k : Int)) = true then 0 else 1) = k + 1
    rw [h (a + 1 + (k : Int)) (by omega) (by omega), cntU_free a k (fun i h1 h2 => h i h1 (by omega))]
    rfl
theorem cntU_full (a : Int) : ∀ k : Nat, (∀ i : Int, a + 1 ≤ i → i < a + 1 + (k : Int) → p i = true) → cntU p a k = 0
  | 0, _ => rfl
  | k + 1, h => by
    show cntU p a k + (if p (a + 1 + (k : Int)) = true then 0 else 1) = 0
    rw [h (a + 1 + (k : Int)) (by omega) (by omega), cntU_full a k (fun i h1 h2 => h i h1 (by omega))]
    rfl
/-- More paused days, fewer that are not. -/
theorem cntU_anti (a : Int) : ∀ k : Nat, (∀ i : Int, a + 1 ≤ i → i < a + 1 + (k : Int) → p i = true → q i = true) → cntU q a k ≤ cntU p a k
  | 0, _ => Nat.le_refl _
  | k + 1, h => by
    have ih := cntU_anti a k (fun i h1 h2 => h i h1 (by omega))
    have h1 := h (a + 1 + (k : Int)) (by omega) (by omega)
    show cntU q a k + (if q (a + 1 + (k : Int)) = true then 0 else 1) ≤ cntU p a k + (if p (a + 1 + (k : Int)) = true then 0 else 1)
    cases hp : p (a + 1 + (k : Int)) with
    | true => rw [h1 hp]; simp; exact ih
    | false => cases q (a + 1 + (k : Int)) <;> simp <;> omega
/-- q is p but for [s, t), in which p has none. -/
theorem cntU_cut (a s t : Int) (k : Nat) (h1 : a < s) (h2 : s ≤ t) (h3 : t ≤ a + k + 1) (hin : ∀ i, s ≤ i → i < t → p i = false ∧ q i = true) (hout : ∀ i, i < s ∨ t ≤ i → p i = q i) :
    cntU q a k + (t - s).toNat = cntU p a k := by
  obtain ⟨x, hx⟩ : ∃ x : Nat, s = a + 1 + x := ⟨(s - a - 1).toNat, by omega⟩
  obtain ⟨y, hy⟩ : ∃ y : Nat, t = s + y := ⟨(t - s).toNat, by omega⟩
  obtain ⟨z, hz⟩ : ∃ z : Nat, k = x + (y + z) := ⟨k - x - y, by omega⟩
  subst hz
  rw [cntU_add q a x, cntU_add q (a + x) y, cntU_add p a x, cntU_add p (a + x) y]
  rw [cntU_congr (p := q) (q := p) a x (fun i h1 h2 => (hout i (.inl (by omega))).symm)]
  rw [cntU_full (p := q) (a + x) y (fun i h1 h2 => (hin i (by omega) (by omega)).2)]
  rw [cntU_free (p := p) (a + x) y (fun i h1 h2 => (hin i (by omega) (by omega)).1)]
  rw [cntU_congr (p := q) (q := p) (a + x + y) z (fun i h1 h2 => (hout i (.inr (by omega))).symm)]
  omega
theorem cntU_lt (a : Int) {k j : Nat} (h : k < j) (hp : p (a + j) = false) : cntU p a k < cntU p a j := by
  obtain ⟨m, rfl⟩ : ∃ m, j = k + m + 1 := ⟨j - k - 1, by omega⟩
  have e : cntU p a (k + m + 1) = cntU p a (k + m) + if p (a + 1 + ((k + m : Nat) : Int)) = true then 0 else 1 := rfl
  have e2 : a + 1 + ((k + m : Nat) : Int) = a + ((k + m + 1 : Nat) : Int) := by omega
  rw [e, e2, hp, cntU_add]
  simp
  omega
theorem cntU_mono (a : Int) {k j : Nat} (h : k ≤ j) : cntU p a k ≤ cntU p a j := by
  obtain ⟨m, rfl⟩ : ∃ m, j = k + m := ⟨j - k, by omega⟩
  rw [cntU_add]
  omega
end

/-! ### The n-th day that is not paused -/
def nxU (p : Int → Bool) : Nat → Int → Int
  | 0, x => x + 1
  | k + 1, x => if p (x + 1) = true then nxU p k (x + 1) else x + 1
/-- The next day that is not paused. -/
def nextU (p : Int → Bool) (x : Int) : Int := nxU p (1000001 - x).toNat x
def nthU (p : Int → Bool) (f : Int) : Nat → Int
  | 0 => f
  | n + 1 => nextU p (nthU p f n)

theorem nxU_spec {p : Int → Bool} (hp : ∀ x, 1000000 ≤ x → p x = false) : ∀ (k : Nat) (x : Int), (1000001 - x).toNat ≤ k → x < nxU p k x ∧ (∀ i, x < i → i < nxU p k x → p i = true) ∧ p (nxU p k x) = false
  | 0, x, h => ⟨by show x < x + 1; omega, fun i h1 h2 => by have h2 : i < x + 1 := h2; omega, hp (x + 1) (by omega)⟩
  | k + 1, x, h => by
    have e : nxU p (k + 1) x = if p (x + 1) = true then nxU p k (x + 1) else x + 1 := rfl
    cases hx : p (x + 1) with
    | true =>
      rw [e, if_pos hx]
      obtain ⟨a, b, c⟩ := nxU_spec hp k (x + 1) (by omega)
      refine ⟨by omega, fun i h1 h2 => ?_, c⟩
      by_cases hi : i = x + 1
      · rw [hi]; exact hx
      · exact b i (by omega) h2
    | false =>
      rw [e, if_neg (by rw [hx]; simp)]
      exact ⟨by omega, fun i h1 h2 => by omega, hx⟩
theorem nextU_spec {p : Int → Bool} (hp : ∀ x, 1000000 ≤ x → p x = false) (x : Int) : x < nextU p x ∧ (∀ i, x < i → i < nextU p x → p i = true) ∧ p (nextU p x) = false := nxU_spec hp _ x (Nat.le_refl _)
theorem nthU_spec {p : Int → Bool} (hp : ∀ x, 1000000 ≤ x → p x = false) (f : Int) : ∀ n, f + n ≤ nthU p f n ∧ cntU p f (nthU p f n - f).toNat = n ∧ (0 < n → p (nthU p f n) = false)
  | 0 => ⟨by show f + 0 ≤ f; omega, by show cntU p f (f - f).toNat = 0; rw [Int.sub_self]; rfl, fun h => by omega⟩
  | n + 1 => by
    obtain ⟨a, b, -⟩ := nthU_spec hp f n
    have e : nthU p f (n + 1) = nextU p (nthU p f n) := rfl
    obtain ⟨c, d, g⟩ := nextU_spec hp (nthU p f n)
    rw [e]
    generalize nthU p f n = x at *
    generalize nextU p x = y at *
    refine ⟨by omega, ?_, fun _ => g⟩
    have h1 : (y - f).toNat = (x - f).toNat + ((y - x - 1).toNat + 1) := by omega
    have h2 : f + ((x - f).toNat : Int) = x := by omega
    rw [h1, cntU_add, b, h2]
    show n + (cntU p x (y - x - 1).toNat + (if p (x + 1 + ((y - x - 1).toNat : Int)) = true then 0 else 1)) = n + 1
    have h3 : x + 1 + ((y - x - 1).toNat : Int) = y := by omega
    rw [h3, g, cntU_full x _ (fun i h1 h2 => d i (by omega) (by omega))]
    rfl
theorem nthU_uniq {p : Int → Bool} (hp : ∀ x, 1000000 ≤ x → p x = false) {f d : Int} {n : Nat} (hf : f ≤ d) (h0 : n = 0 → d = f) (hd : 0 < n → p d = false) (hc : cntU p f (d - f).toNat = n) : nthU p f n = d := by
  rcases Nat.eq_zero_or_pos n with h | h
  · rw [h0 h, h]; rfl
  · obtain ⟨a, b, c⟩ := nthU_spec hp f n
    have c := c h
    have hd := hd h
    generalize nthU p f n = x at *
    rcases Int.lt_trichotomy x d with g | g | g
    · have := cntU_lt (p := p) f (k := (x - f).toNat) (j := (d - f).toNat) (by omega) (by rw [show f + ((d - f).toNat : Int) = d by omega]; exact hd)
      omega
    · exact g
    · have := cntU_lt (p := p) f (k := (d - f).toNat) (j := (x - f).toNat) (by omega) (by rw [show f + ((x - f).toNat : Int) = x by omega]; exact c)
      omega
theorem nthU_congr {p q : Int → Bool} (h : ∀ x, p x = q x) : nthU p = nthU q := by rw [funext h]

/-! ### Stops that are joined -/
abbrev Stp2 := Int × Int
def inS (s : Stp2) (x : Int) : Bool := decide (s.1 ≤ x) && decide (x < s.2)
theorem inS_iff {s : Stp2} {x : Int} : inS s x = true ↔ s.1 ≤ x ∧ x < s.2 := by simp [inS]
theorem inS_no {s : Stp2} {x : Int} (h : x < s.1 ∨ s.2 ≤ x) : inS s x = false := by
  cases hh : inS s x
  · rfl
  · have := inS_iff.1 hh; omega
def anyS (J : List Stp2) (x : Int) : Bool := J.any fun s => inS s x
theorem anyS_iff {J : List Stp2} {x : Int} : anyS J x = true ↔ ∃ s ∈ J, s.1 ≤ x ∧ x < s.2 := by
  unfold anyS
  rw [List.any_eq_true]
  exact ⟨fun ⟨s, h1, h2⟩ => ⟨s, h1, inS_iff.1 h2⟩, fun ⟨s, h1, h2⟩ => ⟨s, h1, inS_iff.2 h2⟩⟩
theorem anyS_congr {J K : List Stp2} (h : ∀ x, anyS J x = true ↔ anyS K x = true) : anyS J = anyS K := funext fun x => by
  have := h x
  cases h1 : anyS J x <;> cases h2 : anyS K x <;> simp_all
/-- In order, apart from each other, behind lo. -/
def Sep : Int → List Stp2 → Prop
  | _, [] => True
  | lo, s :: J => lo < s.1 ∧ s.1 < s.2 ∧ Sep s.2 J
def endS2 : Int → List Stp2 → Int
  | lo, [] => lo
  | _, s :: J => endS2 s.2 J
theorem sep_snoc : ∀ (J : List Stp2) (lo : Int) (s : Stp2), Sep lo (J ++ [s]) ↔ Sep lo J ∧ endS2 lo J < s.1 ∧ s.1 < s.2
  | [], lo, s => by simp [Sep, endS2]
  | t :: J, lo, s => by
    have := sep_snoc J t.2 s
    simp only [List.cons_append, Sep, endS2, this, and_assoc]
theorem end_snoc : ∀ (J : List Stp2) (lo : Int) (s : Stp2), endS2 lo (J ++ [s]) = s.2
  | [], _, _ => rfl
  | t :: J, _, s => end_snoc J t.2 s
theorem sep_low : ∀ {J : List Stp2} {lo : Int}, Sep lo J → ∀ x, x ≤ lo → anyS J x = false
  | [], _, _, _, _ => rfl
  | s :: J, lo, h, x, hx => by
    obtain ⟨h1, h2, h3⟩ := h
    show (inS s x || anyS J x) = false
    rw [inS_no (.inl (by omega)), sep_low h3 x (by omega)]
    rfl

/-- The day by which n days have passed, from a day on, the joined stops added. -/
def aftJ (n : Int) : List Stp2 → Int → Int
  | [], d => d
  | s :: J, d => aftJ n J (if s.1 ≤ d ∧ 0 < n then d + (s.2 - s.1) else d)

theorem aft_go {f : Int} {n : Nat} : ∀ (J : List Stp2) (lo d : Int) (p : Int → Bool), Sep lo J → (∀ x, lo ≤ x → p x = false) → f ≤ lo → f ≤ d → cntU p f (d - f).toNat = n → (0 < n → p d = false) → (n = 0 → d = f) →
    f ≤ aftJ n J d ∧ cntU (fun x => p x || anyS J x) f (aftJ n J d - f).toNat = n ∧ (0 < n → (p (aftJ n J d) || anyS J (aftJ n J d)) = false) ∧ (n = 0 → aftJ n J d = f)
  | [], lo, d, p, _, _, _, hd, hc, hp, h0 => by
    have e : (fun x => p x || anyS [] x) = p := funext fun x => by show (p x || false) = p x; rw [Bool.or_false]
    refine ⟨hd, by rw [e]; exact hc, fun h => ?_, h0⟩
    show (p d || false) = false
    rw [Bool.or_false]
    exact hp h
  | s :: J, lo, d, p, hs, hlo, hfl, hd, hc, hp, h0 => by
    obtain ⟨s1, s2, s3⟩ := hs
    have hq : ∀ x, (p x || anyS (s :: J) x) = ((p x || inS s x) || anyS J x) := fun x => by
      show (p x || (inS s x || anyS J x)) = _
      rw [Bool.or_assoc]
    have hlo' : ∀ x, s.2 ≤ x → (p x || inS s x) = false := fun x hx => by rw [hlo x (by omega), inS_no (.inr hx)]; rfl
    show f ≤ aftJ n J (if s.1 ≤ d ∧ 0 < (n : Int) then d + (s.2 - s.1) else d) ∧ _
    have e : aftJ n (s :: J) d = aftJ n J (if s.1 ≤ d ∧ 0 < (n : Int) then d + (s.2 - s.1) else d) := rfl
    rw [e, funext hq]
    simp only [hq]
    by_cases hcase : s.1 ≤ d ∧ 0 < (n : Int)
    · rw [if_pos hcase]
      obtain ⟨c1, c2⟩ := hcase
      refine aft_go J s.2 (d + (s.2 - s.1)) (fun x => p x || inS s x) s3 hlo' (by omega) (by omega) ?_ (fun _ => hlo' _ (by omega)) (fun h => by omega)
      have k1 := cntU_cut (p := p) (q := fun x => p x || inS s x) f s.1 s.2 (d + (s.2 - s.1) - f).toNat (by omega) (by omega) (by omega)
        (fun i a b => ⟨hlo i (by omega), by rw [inS_iff.2 ⟨a, b⟩, Bool.or_true]⟩) (fun i a => by rw [inS_no a, Bool.or_false])
      have k2 : (d + (s.2 - s.1) - f).toNat = (d - f).toNat + (s.2 - s.1).toNat := by omega
      have k3 := cntU_add p f (d - f).toNat (s.2 - s.1).toNat
      rw [← k2, cntU_free (p := p) (f + ((d - f).toNat : Int)) _ (fun i a b => hlo i (by omega)), hc] at k3
      omega
    · rw [if_neg hcase]
      have hlt : d < s.1 := by
        rcases Nat.eq_zero_or_pos n with h | h
        · have := h0 h; omega
        · omega
      refine aft_go J s.2 d (fun x => p x || inS s x) s3 hlo' (by omega) hd ?_ (fun h => by rw [hp h, inS_no (.inl hlt)]; rfl) h0
      rw [cntU_congr (q := p) f _ (fun i a b => by rw [inS_no (.inl (by omega)), Bool.or_false])]
      exact hc

/-- The joined stops lead to the n-th day that is not paused. -/
theorem aft_nth {f : Int} {J : List Stp2} (hs : Sep f J) (hp : ∀ x, 1000000 ≤ x → anyS J x = false) (n : Nat) : aftJ n J (f + n) = nthU (anyS J) f n := by
  obtain ⟨a, b, c, d⟩ := aft_go (f := f) (n := n) J f (f + n) (fun _ => false) hs (fun _ _ => rfl) (Int.le_refl _) (by omega) (by
    rw [cntU_free f _ (fun _ _ _ => rfl)]; omega) (fun _ => rfl) (fun h => by omega)
  simp only [Bool.false_or] at b c
  exact (nthU_uniq hp a d c b).symm

/-! ### Joining -/
/-- One more stop, that begins no earlier than the last one. -/
def joinStep (J : List Stp2) (s : Stp2) : List Stp2 :=
  match J.getLast? with
  | none => [s]
  | some t => if s.1 ≤ t.2 then J.dropLast ++ [(t.1, max t.2 s.2)] else J ++ [s]
def joinS (l : List Stp2) : List Stp2 := l.foldl joinStep []

theorem join_step {J : List Stp2} {f : Int} {s : Stp2} (hs : Sep f J) (hf : f < s.1) (h2 : s.1 < s.2) (hlast : ∀ t ∈ J.getLast?, t.1 ≤ s.1) :
    Sep f (joinStep J s) ∧ (∀ x, anyS (joinStep J s) x = (anyS J x || inS s x)) ∧ (∀ t ∈ (joinStep J s).getLast?, t.1 ≤ s.1) ∧ joinStep J s ≠ [] := by
  unfold joinStep
  rcases List.eq_nil_or_concat J with rfl | ⟨K, t, rfl⟩
  · refine ⟨⟨hf, h2, trivial⟩, fun x => ?_, fun t ht => ?_, by simp⟩
    · show (inS s x || false) = (false || inS s x)
      rw [Bool.or_false, Bool.false_or]
    · simp at ht; subst ht; exact Int.le_refl _
  · rw [List.concat_eq_append] at *
    have ht := hlast t (by simp)
    rw [List.getLast?_concat]
    simp only
    obtain ⟨k1, k2, k3⟩ := (sep_snoc K f t).1 hs
    by_cases hc : s.1 ≤ t.2
    · rw [if_pos hc, List.dropLast_concat]
      refine ⟨(sep_snoc K f _).2 ⟨k1, k2, ?_⟩, fun x => ?_, fun u hu => ?_, by simp⟩
      · show t.1 < max t.2 s.2
        omega
      · unfold anyS
        rw [List.any_append, List.any_append]
        simp only [List.any_cons, List.any_nil, Bool.or_false]
        rw [Bool.or_assoc]
        congr 1
        have : inS (t.1, max t.2 s.2) x = true ↔ (inS t x || inS s x) = true := by
          rw [Bool.or_eq_true, inS_iff, inS_iff, inS_iff]
          show t.1 ≤ x ∧ x < max t.2 s.2 ↔ _
          omega
        cases h1 : inS (t.1, max t.2 s.2) x <;> cases h2 : (inS t x || inS s x) <;> simp_all
      · simp at hu; subst hu; exact ht
    · rw [if_neg hc]
      refine ⟨(sep_snoc _ f _).2 ⟨hs, ?_, h2⟩, fun x => ?_, fun u hu => ?_, by simp⟩
      · rw [end_snoc]; omega
      · unfold anyS
        rw [List.any_append]
        simp
      · simp at hu; subst hu; exact Int.le_refl _

theorem join_fold {f : Int} : ∀ (l : List Stp2) (J : List Stp2), Sep f J → (∀ s ∈ l, f < s.1 ∧ s.1 < s.2) → l.Pairwise (fun a b => a.1 ≤ b.1) → (∀ t ∈ J.getLast?, ∀ s ∈ l, t.1 ≤ s.1) →
    Sep f (l.foldl joinStep J) ∧ ∀ x, anyS (l.foldl joinStep J) x = (anyS J x || anyS l x)
  | [], J, hs, _, _, _ => ⟨hs, fun x => by show anyS J x = (anyS J x || false); rw [Bool.or_false]⟩
  | s :: l, J, hs, hl, hp, hlast => by
    obtain ⟨h1, h2⟩ := hl s (by simp)
    obtain ⟨g1, g2, g3, -⟩ := join_step hs h1 h2 (fun t ht => hlast t ht s (by simp))
    obtain ⟨p1, p2⟩ := List.pairwise_cons.1 hp
    obtain ⟨r1, r2⟩ := join_fold l (joinStep J s) g1 (fun u hu => hl u (by simp [hu])) p2 (fun t ht u hu => Int.le_trans (g3 t ht) (p1 u hu))
    refine ⟨r1, fun x => ?_⟩
    show anyS (l.foldl joinStep (joinStep J s)) x = (anyS J x || (inS s x || anyS l x))
    rw [r2, g2, Bool.or_assoc]

/-- What is asked of the joined stops: behind f, apart, the same days. -/
theorem join_good {f : Int} {l : List Stp2} (hl : ∀ s ∈ l, f < s.1 ∧ s.1 < s.2) (hp : l.Pairwise (fun a b => a.1 ≤ b.1)) : Sep f (joinS l) ∧ anyS (joinS l) = anyS l := by
  obtain ⟨a, b⟩ := join_fold l [] trivial hl hp (fun t ht => by simp at ht)
  exact ⟨a, funext fun x => by rw [show joinS l = l.foldl joinStep [] from rfl, b x]; rfl⟩

/-! ### What overlaps a stretch of days -/
def ovl (a b : Int) (s : Stp2) : Int := max 0 (min s.2 (b + 1) - max s.1 a)
def ovlS (a b : Int) (J : List Stp2) : Int := (J.map (ovl a b)).sum

theorem ovl_cnt {p : Int → Bool} {a : Int} {k : Nat} {s : Stp2} (hs : s.1 ≤ s.2) (hp : ∀ x, s.1 ≤ x → x < s.2 → p x = false) :
    (cntU (fun x => p x || inS s x) (a - 1) k : Int) + ovl a (a + k - 1) s = cntU p (a - 1) k := by
  unfold ovl
  by_cases h : max s.1 a ≤ min s.2 (a + k - 1 + 1)
  · have := cntU_cut (p := p) (q := fun x => p x || (decide (max s.1 a ≤ x) && decide (x < min s.2 (a + k - 1 + 1)))) (a - 1) (max s.1 a) (min s.2 (a + k - 1 + 1)) k (by omega) h (by omega)
      (fun i h1 h2 => ⟨hp i (by omega) (by omega), by simp; omega⟩) (fun i h1 => by
        have : (decide (max s.1 a ≤ i) && decide (i < min s.2 (a + k - 1 + 1))) = false := by simp; omega
        rw [this, Bool.or_false])
    rw [cntU_congr (p := fun x => p x || inS s x) (q := fun x => p x || (decide (max s.1 a ≤ x) && decide (x < min s.2 (a + k - 1 + 1)))) (a - 1) k (fun i h1 h2 => by
      have : inS s i = (decide (max s.1 a ≤ i) && decide (i < min s.2 (a + k - 1 + 1))) := by
        unfold inS
        rw [← Bool.decide_and, ← Bool.decide_and]
        congr 1
        apply propext
        omega
      simp only [this])]
    omega
  · rw [cntU_congr (p := fun x => p x || inS s x) (q := p) (a - 1) k (fun i h1 h2 => by
      rw [inS_no (by omega), Bool.or_false])]
    omega
theorem ovlS_cnt : ∀ {J : List Stp2} {lo : Int} {p : Int → Bool} {a : Int} {k : Nat}, Sep lo J → (∀ x, lo ≤ x → p x = false) →
    (cntU (fun x => p x || anyS J x) (a - 1) k : Int) + ovlS a (a + k - 1) J = cntU p (a - 1) k
  | [], lo, p, a, k, _, _ => by
    have e : (fun x => p x || anyS [] x) = p := funext fun x => by show (p x || false) = p x; rw [Bool.or_false]
    rw [e]
    show _ + (0 : Int) = _
    omega
  | s :: J, lo, p, a, k, hs, hp => by
    obtain ⟨s1, s2, s3⟩ := hs
    have h1 := ovl_cnt (p := p) (a := a) (k := k) (s := s) (by omega) (fun x h1 h2 => hp x (by omega))
    have h2 := ovlS_cnt (J := J) (p := fun x => p x || inS s x) (a := a) (k := k) s3 (fun x hx => by rw [hp x (by omega), inS_no (.inr hx)]; rfl)
    have e : (fun x => p x || anyS (s :: J) x) = (fun x => (p x || inS s x) || anyS J x) := funext fun x => by
      show (p x || (inS s x || anyS J x)) = _
      rw [Bool.or_assoc]
    rw [e]
    show _ + (ovl a (a + k - 1) s + ovlS a (a + k - 1) J) = _
    omega
/-- The days of a stretch that are not paused. -/
theorem ovlS_all {J : List Stp2} {lo a : Int} {k : Nat} (hs : Sep lo J) : (cntU (anyS J) (a - 1) k : Int) = k - ovlS a (a + k - 1) J := by
  have h := ovlS_cnt (J := J) (lo := lo) (p := fun _ => false) (a := a) (k := k) hs (fun _ _ => rfl)
  rw [cntU_free (p := fun _ => false) (a - 1) k (fun _ _ _ => rfl)] at h
  simp only [Bool.false_or] at h
  have e : (fun x => anyS J x) = anyS J := rfl
  rw [e] at h
  omega
end Go.Proofs.YtebdkmlganalaaaGreatDoor

namespace Go.Proofs.YtebdkmlganalaaaGreatDoor
open Go.RowKit

def letB (c : UInt8) : Bool := decide (97 ≤ c.toNat ∧ c.toNat ≤ 122) || decide (65 ≤ c.toNat ∧ c.toNat ≤ 90)
def digB (c : UInt8) : Bool := decide (48 ≤ c.toNat ∧ c.toNat ≤ 57) || decide (c.toNat = 95)
def okAt (i : Nat) (c : UInt8) : Bool := letB c || (decide (0 < i) && digB c)
def nmGo : Nat → List UInt8 → Bool
  | _, [] => true
  | i, c :: cs => okAt i c && nmGo (i + 1) cs
/-- Whether a text is a name. -/
def nmB (l : List UInt8) : Bool := nmGo 0 l && (!l.isEmpty && decide (l.length ≤ 24))
theorem nmGo_app : ∀ (a b : List UInt8) (i : Nat), nmGo i (a ++ b) = (nmGo i a && nmGo (i + a.length) b)
  | [], b, i => by simp [nmGo]
  | c :: a, b, i => by
    show (okAt i c && nmGo (i + 1) (a ++ b)) = ((okAt i c && nmGo (i + 1) a) && nmGo (i + (a.length + 1)) b)
    rw [nmGo_app a b (i + 1), Bool.and_assoc, show i + 1 + a.length = i + (a.length + 1) by omega]
theorem nmGo_at {l : List UInt8} {k : Nat} {c : UInt8} (h : l[k]? = some c) : nmGo 0 (l.take (k + 1)) = (nmGo 0 (l.take k) && okAt k c) := by
  obtain ⟨hk, hc⟩ := List.getElem?_eq_some_iff.1 h
  rw [List.take_succ_eq_append_getElem hk, hc, nmGo_app]
  have : (l.take k).length = k := by rw [List.length_take]; omega
  rw [this]
  show (_ && (okAt (0 + k) c && true)) = _
  rw [Bool.and_true, Nat.zero_add]
theorem nmGo_no {l : List UInt8} {k : Nat} {c : UInt8} (h : l[k]? = some c) (hc : okAt k c = false) : nmGo 0 l = false := by
  have h1 := nmGo_at h
  have h2 := nmGo_app (l.take (k + 1)) (l.drop (k + 1)) 0
  rw [List.take_append_drop] at h2
  rw [h2, h1, hc, Bool.and_false, Bool.false_and]

set_option maxHeartbeats 1000000 in
theorem isName_any (w : World) (s : ByteArray) (hs : s.size ≤ 9223372036854775807) : Calls Tryz.prog 75 #[.string s] w fun e w' => e = .returned (.bool (nmB s.data.toList)) ∧ w = w' := by
  have hsz : s.data.toList.length = s.size := rfl
  have HL := Lib.hid hsz
  clear hsz
  obtain ⟨r, hr⟩ : ∃ r, r = nmB s.data.toList := ⟨_, rfl⟩
  rw [← hr]
  have HR := Lib.hid hr
  clear hr
  go_enter Tryz.func75, Tryz.ntmps75
  go_wp2_with fail
  go_loop [9] (fun i => ∃ k : Nat, k ≤ s.size ∧ i = .int .i64 (k : Int) ∧ Hid (nmGo 0 (s.data.toList.take k) = true)) (fun i => s.size - (intOf i).toNat)
  case atStart => exact ⟨0, Nat.zero_le _, rfl, Lib.hid rfl⟩
  case round =>
    obtain ⟨k, hk, rfl, hn⟩ := hrel
    by_cases hlt : k < s.size
    · obtain ⟨c, hc⟩ : ∃ c, s.data.toList[k]? = some c := ⟨_, List.getElem?_eq_getElem (by rw [HL.out]; exact hlt)⟩
      have hget : s[k] = c := by
        obtain ⟨h1, h2⟩ := List.getElem?_eq_some_iff.1 hc
        rw [← h2]
        rfl
      have HC := Lib.hid hc
      clear hc
      have h255 := c.toNat_lt
      have hcl : (c.toNat ≤ 47 ∨ (58 ≤ c.toNat ∧ c.toNat ≤ 64) ∨ (91 ≤ c.toNat ∧ c.toNat ≤ 94) ∨ c.toNat = 96 ∨ 123 ≤ c.toNat) ∨ ((48 ≤ c.toNat ∧ c.toNat ≤ 57) ∨ c.toNat = 95) ∨ (65 ≤ c.toNat ∧ c.toNat ≤ 90) ∨ (97 ≤ c.toNat ∧ c.toNat ≤ 122) := by omega
      rcases hcl with hcl | hcl | hcl
      · have hok : okAt k c = false := by simp [okAt, letB, digB]; omega
        have e95 : ((c.toNat : Int) == 95) = false := by simp; omega
        have hno := nmGo_no HC.out hok
        have e : nmB s.data.toList = false := by unfold nmB; rw [hno]; rfl
        have HE := Lib.hid (HR.out.trans e)
        clear e hno hok HC
        have hk0 : ((k : Int) == 0) = true ∨ ((k : Int) == 0) = false := by cases ((k : Int) == 0) <;> simp
        rcases hk0 with e0 | e0 <;> rcases hcl with h | h | h | h | h <;> cases d57 : decide ((c.toNat : Int) ≤ 57) <;> cases d90 : decide ((c.toNat : Int) ≤ 90) <;> cases d122 : decide ((c.toNat : Int) ≤ 122)
        all_goals first
          | (exfalso; simp at d57 d90 d122; omega)
          | (go_wp2; go_ret; exact ⟨by rw [HE.out]; rfl, rfl⟩)
      · cases h0 : decide (0 < k) with
        | false =>
          have hk0 : k = 0 := by simpa using h0
          have hok : okAt k c = false := by
            subst hk0
            simp [okAt, letB, digB]; omega
          have e0 : ((k : Int) == 0) = true := by simpa using hk0
          have hno := nmGo_no HC.out hok
          have e : nmB s.data.toList = false := by unfold nmB; rw [hno]; rfl
          have HE := Lib.hid (HR.out.trans e)
          clear e hno hok HC hk0 h0
          rcases hcl with h | h
          · cases e95 : ((c.toNat : Int) == 95) with
            | true => exfalso; simp at e95; omega
            | false =>
              go_wp2
              go_ret
              exact ⟨by rw [HE.out]; rfl, rfl⟩
          · have e95 : ((c.toNat : Int) == 95) = true := by simp; omega
            go_wp2
            go_ret
            exact ⟨by rw [HE.out]; rfl, rfl⟩
        | true =>
          have hk0 : 0 < k := by simpa using h0
          have hok : okAt k c = true := by
            simp [okAt, letB, digB]; omega
          have e0 : ((k : Int) == 0) = false := by simp; omega
          have hnx : nmGo 0 (s.data.toList.take (k + 1)) = true := by rw [nmGo_at HC.out, hn.out, hok]; rfl
          have HX := Lib.hid hnx
          clear hnx hok h0
          rcases hcl with h | h
          · have d57 : decide ((c.toNat : Int) ≤ 57) = true := by simp; omega
            go_wp2
            go_round
            case rel => exact ⟨k + 1, by omega, by go_num, HX⟩
            case measure => simp [intOf]; omega
          · have e95 : ((c.toNat : Int) == 95) = true := by simp; omega
            go_wp2
            go_round
            case rel => exact ⟨k + 1, by omega, by go_num, HX⟩
            case measure => simp [intOf]; omega
      · have hok : okAt k c = true := by simp [okAt, letB, digB]; omega
        have e95 : ((c.toNat : Int) == 95) = false := by simp; omega
        have hnx : nmGo 0 (s.data.toList.take (k + 1)) = true := by rw [nmGo_at HC.out, hn.out, hok]; rfl
        have HX := Lib.hid hnx
        clear hnx hok
        rcases hcl with h | h <;> cases d57 : decide ((c.toNat : Int) ≤ 57) <;> cases d90 : decide ((c.toNat : Int) ≤ 90) <;> cases d122 : decide ((c.toNat : Int) ≤ 122)
        all_goals try (exfalso; simp at d57 d90 d122; omega)
        all_goals
          go_wp2
          go_round
          case rel => exact ⟨k + 1, by omega, by go_num, HX⟩
          case measure => simp [intOf]; omega
    · obtain rfl : k = s.size := by omega
      have hn2 : nmGo 0 s.data.toList = true := by have := hn.out; rwa [List.take_of_length_le (by rw [HL.out]; exact Nat.le_refl _)] at this
      have e : nmB s.data.toList = (!s.toList.isEmpty && decide ((s.size : Int) ≤ 24)) := by
        unfold nmB
        rw [hn2, Bool.true_and, HL.out, ByteArray.toList_eq]
        congr 1
        rw [decide_eq_decide]
        omega
      cases he : s.toList.isEmpty with
      | true =>
        have hz : s.toList = [] := by simpa using he
        rw [he] at e
        have HE := Lib.hid (HR.out.trans e)
        clear e hn2 hn
        go_wp2
        go_ret
        exact ⟨by rw [HE.out]; rfl, rfl⟩
      | false =>
        have hz : ¬ s.toList = [] := by simpa using he
        rw [he] at e
        have HE := Lib.hid (HR.out.trans e)
        clear e hn2 hn
        go_wp2
        go_ret
        exact ⟨by rw [HE.out]; rfl, rfl⟩
end Go.Proofs.YtebdkmlganalaaaGreatDoor
