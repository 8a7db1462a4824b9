/- The lexer's words as plain data: when a text is one name; numerals. -/
import Derived.Test.YtgfahifdmacmhaaGreatDoorQc
namespace Go.Proofs.YtgfahifdmacmhaaGreatDoor

/-- A class within a word. -/
def wdN (n : Nat) : Prop := n = 3 ∨ n = 4 ∨ n = 5
theorem clN_let : ∀ c, c < 256 → (clN c = 3 ↔ letB (UInt8.ofNat c) = true) := by decide +kernel
theorem clN_dig : ∀ c, c < 256 → (clN c = 4 ∨ clN c = 5 ↔ digB (UInt8.ofNat c) = true) := by decide +kernel
theorem clN_num : ∀ c, c < 256 → (clN c = 4 ↔ (48 ≤ c ∧ c ≤ 57)) := by decide +kernel
theorem clN_hash : ∀ c, c < 256 → clN c = 2 → c ≠ 10 := by decide +kernel
theorem clN_lt : ∀ c, c < 256 → clN c < 9 := by decide +kernel
theorem of_u8 (c : UInt8) : UInt8.ofNat c.toNat = c := by
  apply UInt8.toNat.inj
  rw [UInt8.toNat_ofNat']
  have := c.toNat_lt
  omega
theorem atV_some {l : List UInt8} {i : Nat} {c : UInt8} (h : l[i]? = some c) : atV l i = clN c.toNat := by unfold atV; rw [h]
theorem atV_none {l : List UInt8} {i : Nat} (h : l.length ≤ i) : atV l i = 0 := by unfold atV; rw [List.getElem?_eq_none h]
theorem atV_lt (l : List UInt8) (i : Nat) : atV l i < 9 := by
  cases h : l[i]? with
  | none => unfold atV; rw [h]; decide
  | some c => rw [atV_some h]; exact clN_lt _ c.toNat_lt
theorem okAt_iff {i : Nat} {c : UInt8} : okAt i c = true ↔ clN c.toNat = 3 ∨ (0 < i ∧ (clN c.toNat = 4 ∨ clN c.toNat = 5)) := by
  have h1 := clN_let c.toNat c.toNat_lt
  have h2 := clN_dig c.toNat c.toNat_lt
  rw [of_u8] at h1 h2
  unfold okAt
  rw [Bool.or_eq_true, Bool.and_eq_true, decide_eq_true_eq, h1, h2]
theorem nmGo_iff : ∀ (l : List UInt8) (i : Nat), nmGo i l = true ↔ ∀ (k : Nat) (c : UInt8), l[k]? = some c → okAt (i + k) c = true
  | [], i => by simp [nmGo]
  | c :: l, i => by
    show (okAt i c && nmGo (i + 1) l) = true ↔ _
    rw [Bool.and_eq_true, nmGo_iff l (i + 1)]
    constructor
    · rintro ⟨h1, h2⟩ k d hk
      cases k with
      | zero => simp at hk; subst hk; exact h1
      | succ k =>
        have := h2 k d (by simpa using hk)
        rw [show i + (k + 1) = i + 1 + k by omega]
        exact this
    · intro h
      refine ⟨h 0 c rfl, fun k d hk => ?_⟩
      have := h (k + 1) d (by simpa using hk)
      rw [show i + 1 + k = i + (k + 1) by omega]
      exact this
/-- What a name is, in classes. -/
theorem nmB_cls {l : List UInt8} : nmB l = true ↔ atV l 0 = 3 ∧ (∀ m, m < l.length → wdN (atV l m)) ∧ l.length ≤ 24 := by
  unfold nmB
  rw [Bool.and_eq_true, Bool.and_eq_true, decide_eq_true_eq, nmGo_iff]
  constructor
  · rintro ⟨h1, h2, h3⟩
    cases l with
    | nil => simp at h2
    | cons b l =>
      refine ⟨?_, fun m hm => ?_, h3⟩
      · have := okAt_iff.1 (h1 0 b rfl)
        rw [atV_some (show (b :: l)[0]? = some b from rfl)]
        rcases this with h | ⟨h, _⟩
        · exact h
        · omega
      · have hc := List.getElem?_eq_getElem hm
        rw [atV_some hc]
        have := okAt_iff.1 (h1 m _ hc)
        unfold wdN
        rcases this with h | ⟨_, h⟩
        · exact .inl h
        · exact .inr h
  · rintro ⟨h1, h2, h3⟩
    refine ⟨fun k c hk => ?_, ?_, h3⟩
    · obtain ⟨hlt, _⟩ := List.getElem?_eq_some_iff.1 hk
      have := h2 k hlt
      rw [atV_some hk] at this
      rw [okAt_iff]
      rcases this with h | h
      · exact .inl h
      · rcases Nat.eq_zero_or_pos k with rfl | hp
        · rw [atV_some hk] at h1
          omega
        · exact .inr ⟨by omega, h⟩
    · cases l with
      | nil => simp [atV] at h1
      | cons b l => rfl
theorem atV_sub {l : List UInt8} {k n i : Nat} (h : i < n) : atV ((l.drop k).take n) i = atV l (k + i) := by
  unfold atV
  rw [List.getElem?_take, if_pos h, List.getElem?_drop]
/-- A word that begins with a letter is a name, if it is short. -/
theorem word_name {l : List UInt8} {k j : Nat} (h0 : atV l k = 3) (hw : ∀ m, k ≤ m → m < j → wdN (atV l m)) (hj : j ≤ l.length) (hlt : k < j) (h24 : j - k ≤ 24) : nmB ((l.drop k).take (j - k)) = true := by
  have hlen : ((l.drop k).take (j - k)).length = j - k := by rw [List.length_take, List.length_drop]; omega
  rw [nmB_cls, hlen]
  refine ⟨by rw [atV_sub (by omega)]; exact h0, fun m hm => ?_, h24⟩
  rw [atV_sub hm]
  exact hw _ (by omega) (by omega)
/-- Digits make a number. -/
theorem decFrom_some : ∀ (l : List UInt8) (acc : Nat), (∀ c ∈ l, 48 ≤ c.toNat ∧ c.toNat ≤ 57) → ∃ n, Lib.decFrom acc l = some n
  | [], acc, _ => ⟨acc, rfl⟩
  | c :: l, acc, h => by
    have hc := h c List.mem_cons_self
    have hd : Lib.digitVal c = some (c.toNat - 48) := by
      unfold Lib.digitVal
      rw [if_pos hc]
    obtain ⟨n, hn⟩ := decFrom_some l (acc * 10 + (c.toNat - 48)) (fun d hd => h d (List.mem_cons_of_mem _ hd))
    exact ⟨n, by unfold Lib.decFrom; rw [hd]; exact hn⟩
theorem atoi_digits {l : List UInt8} (h0 : l ≠ []) (h : ∀ c ∈ l, 48 ≤ c.toNat ∧ c.toNat ≤ 57) : ∃ n, Lib.atoi l = some n := by
  cases l with
  | nil => exact absurd rfl h0
  | cons c l =>
    obtain ⟨n, hn⟩ := decFrom_some (c :: l) 0 h
    have hc := h c List.mem_cons_self
    have e1 : (c == 45) = false := by
      rw [beq_eq_false_iff_ne]
      rintro rfl
      simp at hc
    have e2 : (c == 43) = false := by
      rw [beq_eq_false_iff_ne]
      rintro rfl
      simp at hc
    refine ⟨(n : Int), ?_⟩
    have e3 : Lib.decNat (c :: l) = some n := by
      unfold Lib.decNat
      exact hn
    show (if (c == 45) = true then (Lib.decNat l).map fun (m : Nat) => -(m : Int) else if (c == 43) = true then (Lib.decNat l).map fun (m : Nat) => (m : Int) else (Lib.decNat (c :: l)).map fun (m : Nat) => (m : Int)) = some (n : Int)
    rw [e1, e2, e3]
    rfl
theorem word_digits {l : List UInt8} {k j : Nat} (hw : ∀ m, k ≤ m → m < j → atV l m = 4) (hj : j ≤ l.length) (hlt : k < j) : ∃ n, Lib.atoi ((l.drop k).take (j - k)) = some n := by
  have hlen : ((l.drop k).take (j - k)).length = j - k := by rw [List.length_take, List.length_drop]; omega
  refine atoi_digits (fun e => by rw [e] at hlen; simp at hlen; omega) fun c hc => ?_
  obtain ⟨i, hi⟩ := List.getElem?_of_mem hc
  have hil := (List.getElem?_eq_some_iff.1 hi).1
  rw [hlen] at hil
  have h1 := atV_some hi
  rw [atV_sub hil, hw _ (by omega) (by omega)] at h1
  exact (clN_num _ c.toNat_lt).1 h1.symm
end Go.Proofs.YtgfahifdmacmhaaGreatDoor
