/- Plain laws of Add: a longer term, a later beginning, a further closed day do not end earlier. -/
import Derived.Test.YtfblngdmeliabaaDoorCEp
namespace Go.Proofs.YtfblngdmeliabaaDoor
open Go.RowKit

theorem opB_sub {l l' : List Int} (h : ∀ x ∈ l, x ∈ l') {x : Int} (ho : opB l' x = true) : opB l x = true := by
  rw [opB_iff] at ho ⊢
  exact ⟨ho.1, ho.2.1, ho.2.2.1, fun hm => ho.2.2.2 (h x hm)⟩

theorem fromS_mono {l l' : List Int} (h : ∀ x ∈ l, x ∈ l') {x x' : Int} (h0 : 0 ≤ x) (hx : x ≤ x') (hb : isB (fromS l' x') = true) : fromS l x ≤ fromS l' x' ∧ isB (fromS l x) = true := by
  have ho := opB_sub h (fromS_op l' hb)
  have h1 := fromS_le l' x'
  have h2 := fromS_le l x
  obtain ⟨b0, b1⟩ := (isB_iff _).1 hb
  have hle : fromS l x ≤ fromS l' x' := by
    rcases Int.lt_or_le (fromS l' x') (fromS l x) with c | c
    · have := (fromS_no l (x := x) (i := fromS l' x') (by omega) c).2.2
      rw [ho] at this
      cases this
    · exact c
  exact ⟨hle, (isB_iff _).2 ⟨by omega, by omega⟩⟩

theorem nthS_mono {l l' : List Int} (h : ∀ x ∈ l, x ∈ l') {x x' : Int} (h0 : 0 ≤ x) (hx : x ≤ x') : ∀ k' k : Nat, k ≤ k' → isB (nthS l' k' x') = true → nthS l k x ≤ nthS l' k' x' ∧ isB (nthS l k x) = true
  | 0, k, hk, hb => by
    obtain rfl : k = 0 := by omega
    have hb' : isB x' = true := hb
    obtain ⟨b0, b1⟩ := (isB_iff _).1 hb'
    exact ⟨hx, (isB_iff _).2 ⟨h0, show x ≤ 1000000 by omega⟩⟩
  | k' + 1, k, hk, hb => by
    have e' : nthS l' (k' + 1) x' = if isB (nthS l' k' x') = true then fromS l' (nthS l' k' x' + 1) else nthS l' k' x' := rfl
    cases hc : isB (nthS l' k' x') with
    | false =>
      rw [e', hc, if_neg (by simp), hc] at hb
      cases hb
    | true =>
      rw [e', if_pos hc] at hb ⊢
      rcases Nat.lt_or_ge k' k with c | c
      · obtain rfl : k = k' + 1 := by omega
        obtain ⟨i1, i2⟩ := nthS_mono h h0 hx k' k' (Nat.le_refl _) hc
        have e : nthS l (k' + 1) x = if isB (nthS l k' x) = true then fromS l (nthS l k' x + 1) else nthS l k' x := rfl
        rw [e, if_pos i2]
        obtain ⟨j0, j1⟩ := (isB_iff _).1 i2
        exact fromS_mono h (by omega) (by omega) hb
      · obtain ⟨i1, i2⟩ := nthS_mono h h0 hx k' k c hc
        have := fromS_le l' (nthS l' k' x' + 1)
        exact ⟨by omega, i2⟩

theorem num_lt {y m d y' m' d' : Int} (hv : Vd y m d) (hv' : Vd y' m' d') (h : 12 * y + m < 12 * y' + m') : num y m d < num y' m' d' := by
  have a1 := num_in hv
  have a2 := num_in hv'
  obtain ⟨y1, y2, m1, m2, d1, d2⟩ := hv
  obtain ⟨z1, z2, k1, k2, e1, e2⟩ := hv'
  rcases Int.lt_trichotomy y y' with c | c | c
  · have := beg_mono (show y + 1 ≤ y' by omega)
    omega
  · subst c
    have h3 := cum_succ y m m1 m2
    have h4 := cum_mono y (m + 1) m' (by omega) (by omega) (by omega)
    unfold num
    omega
  · omega

theorem monS_mono {y m d n y' m' d' n' : Int} (hv : Vd y m d) (hv' : Vd y' m' d') (hle : num y m d ≤ num y' m' d') (hn : 0 ≤ n) (hnn : n ≤ n') (h : (monS y' m' d' n').2 = 0) :
    (monS y m d n).2 = 0 ∧ (monS y m d n).1 ≤ (monS y' m' d' n').1 ∧ isB (monS y m d n).1 = true := by
  have hK : 12 * y + m ≤ 12 * y' + m' := by
    rcases Int.lt_or_le (12 * y' + m') (12 * y + m) with c | c
    · have := num_lt hv' hv c
      omega
    · exact c
  unfold monS at h ⊢
  split at h
  · cases h
  · rename_i h1
    rw [if_neg h1, if_neg (by omega)]
    obtain ⟨hv2, he, g0, g1⟩ := dayS_ok h
    rw [he]
    clear h he
    have hy := hv
    have hy' := hv'
    obtain ⟨y1, y2, m1, m2, d1, d2⟩ := hy
    obtain ⟨z1, z2, k1, k2, e1, e2⟩ := hy'
    generalize hY : (n + (12 * y + m - 1)) / 12 = Y at *
    generalize hM : (n + (12 * y + m - 1)) % 12 + 1 = M at *
    generalize hY' : (n' + (12 * y' + m' - 1)) / 12 = Y' at *
    generalize hM' : (n' + (12 * y' + m' - 1)) % 12 + 1 = M' at *
    have q1 : n + (12 * y + m - 1) = 12 * Y + (M - 1) := by omega
    have q2 : n' + (12 * y' + m' - 1) = 12 * Y' + (M' - 1) := by omega
    have q3 : 1 ≤ M ∧ M ≤ 12 := by omega
    have q4 : 1 ≤ M' ∧ M' ≤ 12 := by omega
    have b1 := ml_bd Y M
    have hv3 : Vd Y M (min d (ml Y M)) := ⟨by omega, by omega, q3.1, q3.2, by omega, by omega⟩
    have hlt : num Y M (min d (ml Y M)) ≤ num Y' M' (min d' (ml Y' M')) := by
      rcases Int.lt_or_le (12 * Y + M) (12 * Y' + M') with c | c
      · have := num_lt hv3 hv2 c
        omega
      · have c1 : 12 * Y + M = 12 * Y' + M' := by omega
        obtain rfl : Y = Y' := by omega
        obtain rfl : M = M' := by omega
        obtain rfl : y = y' := by omega
        obtain rfl : m = m' := by omega
        have : d ≤ d' := by unfold num at hle; omega
        unfold num
        omega
    have hb := num_in hv3
    have hb0 := beg_mono (show (1600 : Int) ≤ Y by omega)
    rw [beg_0] at hb0
    rw [dayS_yes hv3 (by omega)]
    exact ⟨rfl, hlt, (isB_iff _).2 ⟨by show 0 ≤ num Y M _; omega, by show num Y M _ ≤ 1000000; omega⟩⟩

/-- A longer term, a later beginning, more closed days: no earlier end. -/
theorem addS_mono {l l' : List Int} (hs : ∀ x ∈ l, x ∈ l') (hll : l.length ≤ l'.length) {d d' n n' u : Int} (hd : isB d = true) (hdd : d ≤ d') (hn : 0 ≤ n) (hnn : n ≤ n') (h : (addS l' d' n' u).2 = 0) :
    (addS l d n u).2 = 0 ∧ (addS l d n u).1 ≤ (addS l' d' n' u).1 := by
  obtain ⟨hd', u1, u2, n0, n1, hl, p', hp', hpb', he', heb'⟩ := addS_ok h
  have hst : ∃ p, stepS l d n u (ymd d).1 (ymd d).2.1 (ymd d).2.2 = (p, 0) ∧ p ≤ p' ∧ isB p = true := by
    obtain ⟨hv, hnum⟩ := ymd_of hd
    obtain ⟨hv', hnum'⟩ := ymd_of hd'
    obtain ⟨d0, d1⟩ := (isB_iff _).1 hd
    obtain ⟨p0, p1⟩ := (isB_iff _).1 hpb'
    unfold stepS at hp' ⊢
    split at hp'
    · rename_i c
      rw [if_pos c]
      injection hp' with a _
      exact ⟨_, rfl, by omega, (isB_iff _).2 ⟨by omega, by omega⟩⟩
    · rename_i c
      rw [if_neg c]
      split at hp'
      · rename_i c
        rw [if_pos c]
        injection hp' with a _
        exact ⟨_, rfl, by omega, (isB_iff _).2 ⟨by omega, by omega⟩⟩
      · rename_i c
        rw [if_neg c]
        split at hp'
        · rename_i c
          rw [if_pos c]
          obtain ⟨r1, r2, r3⟩ := monS_mono hv hv' (by rw [hnum, hnum']; exact hdd) hn hnn (by rw [hp'])
          rw [hp'] at r2
          exact ⟨_, Prod.ext rfl r1, r2, r3⟩
        · rename_i c
          rw [if_neg c]
          split at hp'
          · rename_i c
            rw [if_pos c]
            obtain ⟨r1, r2, r3⟩ := monS_mono (n := 12 * n) (n' := 12 * n') hv hv' (by rw [hnum, hnum']; exact hdd) (by omega) (by omega) (by rw [hp'])
            rw [hp'] at r2
            exact ⟨_, Prod.ext rfl r1, r2, r3⟩
          · rename_i c
            rw [if_neg c]
            injection hp' with a _
            subst a
            obtain ⟨r1, r2⟩ := nthS_mono hs d0 hdd n'.toNat n.toNat (by omega) hpb'
            exact ⟨_, rfl, r1, r2⟩
  obtain ⟨p, hp, hpp, hpb⟩ := hst
  obtain ⟨p0, p1⟩ := (isB_iff _).1 hpb
  obtain ⟨f1, f2⟩ := fromS_mono hs p0 hpp heb'
  rw [he']
  have : addS l d n u = (fromS l p, 0) := by
    unfold addS
    rw [if_neg (by rw [hd]; simp; omega), if_neg (by omega), hp]
    unfold endS
    rw [if_pos ⟨rfl, hpb⟩, if_pos f2]
  rw [this]
  exact ⟨rfl, f1⟩
end Go.Proofs.YtfblngdmeliabaaDoor
