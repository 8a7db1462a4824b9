/- Stages that reach an end: plain graphs; a search from behind, and rounds over the moves. Maps whose keys are ints; what the search for ends asks of a move. The search for stages that reach an end: the recursive closure. What lies in memory while Apply works. -/
import Derived.Test.YtebdkmlganalaaaGreatDoorKTopAccruedGAK
import Derived.Test.YtebdkmlganalaaaGreatDoorKTopAccruedGBN
import Derived.Test.YtebdkmlganalaaaGreatDoorKTopAccruedGAY
import Derived.Test.YtebdkmlganalaaaGreatDoorKTopAccruedGBE
namespace Go.Proofs.YtebdkmlganalaaaGreatDoor

/-- One stage reaches another by moves. -/
inductive Rch (ms : List I2) : Int → Int → Prop
  | refl (s : Int) : Rch ms s s
  | step {s t u : Int} : (s, t) ∈ ms → Rch ms t u → Rch ms s u
theorem Rch.trans {ms : List I2} {s t u : Int} (h : Rch ms s t) (h' : Rch ms t u) : Rch ms s u := by
  induction h with
  | refl => exact h'
  | step hm _ ih => exact .step hm (ih h')
theorem Rch.snoc {ms : List I2} {s t u : Int} (h : Rch ms s t) (hm : (t, u) ∈ ms) : Rch ms s u := h.trans (.step hm (.refl u))
/-- A set that is closed under steps back holds all that reach one of its own. -/
theorem Rch.back {ms : List I2} {V : Int → Prop} (hV : ∀ m ∈ ms, V m.2 → V m.1) {s t : Int} (h : Rch ms s t) (ht : V t) : V s := by
  induction h with
  | refl => exact ht
  | step hm _ ih => exact hV _ hm (ih ht)
theorem Rch.fore {ms : List I2} {V : Int → Prop} (hV : ∀ m ∈ ms, V m.1 → V m.2) {s t : Int} (h : Rch ms s t) (hs : V s) : V t := by
  induction h with
  | refl => exact hs
  | step hm _ ih => exact ih (hV _ hm hs)
def endAt (p : Pc) (s : Int) : Prop := 0 ≤ s ∧ s < (p.ss.length : Int) ∧ ∀ m ∈ p.ms, m.1 ≠ s
def Ends (p : Pc) (s : Int) : Prop := ∃ t, endAt p t ∧ Rch p.ms s t
open Classical in
noncomputable def endB (p : Pc) (s : Int) : Bool := decide (Ends p s)
theorem endB_iff {p : Pc} {s : Int} : endB p s = true ↔ Ends p s := by unfold endB; exact @decide_eq_true_iff _ (Classical.propDecidable _)
/-- All moves lie within n stages. -/
def MvIn (n : Nat) (ms : List I2) : Prop := ∀ m ∈ ms, (0 ≤ m.1 ∧ m.1 < (n : Int)) ∧ 0 ≤ m.2 ∧ m.2 < (n : Int)
theorem Rch.in_ {ms : List I2} {n : Nat} (h : MvIn n ms) {s t : Int} (hr : Rch ms s t) (ht : 0 ≤ t ∧ t < (n : Int)) : 0 ≤ s ∧ s < (n : Int) :=
  hr.back (V := fun x => 0 ≤ x ∧ x < (n : Int)) (fun m hm _ => (h m hm).1) ht
theorem Ends.in_ {p : Pc} (h : MvIn p.ss.length p.ms) {s : Int} (he : Ends p s) : 0 ≤ s ∧ s < (p.ss.length : Int) := by
  obtain ⟨t, ⟨h0, h1, -⟩, hr⟩ := he
  exact hr.in_ h ⟨h0, h1⟩

/-- Different numbers below n: at most n. -/
theorem few_below : ∀ (n : Nat) (V : List Int), V.Nodup → (∀ x ∈ V, 0 ≤ x ∧ x < (n : Int)) → V.length ≤ n
  | 0, V, _, h => by
    cases V with
    | nil => exact Nat.le_refl _
    | cons x V => have := h x (by simp); omega
  | n + 1, V, hd, h => by
    have h1 : (V.erase (n : Int)).Nodup := hd.erase _
    have h2 := few_below n (V.erase (n : Int)) h1 fun x hx => by
      have hx' := (hd.mem_erase_iff).1 hx
      have := h x hx'.2
      have hne := hx'.1
      omega
    by_cases hm : (n : Int) ∈ V
    · rw [List.length_erase_of_mem hm] at h2; omega
    · rw [List.erase_of_not_mem hm] at h2; omega

/-! The search from behind: what it has seen. -/
/-- Behind V there came X: all of X reach s by moves, and what steps to one of X is seen. -/
structure Seen (ms : List I2) (s : Int) (V X : List Int) : Prop where
  nd : (V ++ X).Nodup
  rch : ∀ x ∈ X, Rch ms x s
  shut : ∀ x ∈ X, x ≠ s → ∀ m ∈ ms, m.2 = x → m.1 ∈ V ++ X
theorem Seen.start {ms : List I2} {s : Int} {V : List Int} (hV : V.Nodup) (hs : s ∉ V) : Seen ms s V [s] where
  nd := by
    rw [List.nodup_append]
    refine ⟨hV, by simp, fun a ha b hb => ?_⟩
    have : b = s := by simpa using hb
    rintro rfl
    exact hs (this ▸ ha)
  rch x hx := by
    obtain rfl : x = s := by simpa using hx
    exact .refl x
  shut x hx hne := absurd (by simpa using hx) hne
/-- A whole search at s. -/
structure Sought (ms : List I2) (s : Int) (V X : List Int) : Prop where
  nd : (V ++ X).Nodup
  rch : ∀ x ∈ X, Rch ms x s
  shut : ∀ x ∈ X, ∀ m ∈ ms, m.2 = x → m.1 ∈ V ++ X
  self : s ∈ V ++ X
theorem Sought.none {ms : List I2} {s : Int} {V : List Int} (hV : V.Nodup) (hs : s ∈ V) : Sought ms s V [] where
  nd := by rw [List.append_nil]; exact hV
  rch x hx := by cases hx
  shut x hx := by cases hx
  self := List.mem_append_left _ hs
/-- A search at what steps to s. -/
theorem Seen.next {ms : List I2} {s t : Int} {V X Y : List Int} (h : Seen ms s V X) (hm : (t, s) ∈ ms) (hy : Sought ms t (V ++ X) Y) : Seen ms s V (X ++ Y) ∧ t ∈ V ++ (X ++ Y) := by
  have e : V ++ X ++ Y = V ++ (X ++ Y) := List.append_assoc _ _ _
  refine ⟨⟨e ▸ hy.nd, fun x hx => ?_, fun x hx hne m hmm he => ?_⟩, e ▸ hy.self⟩
  · rcases List.mem_append.1 hx with h1 | h1
    · exact h.rch x h1
    · exact (hy.rch x h1).snoc hm
  · rw [← e]
    rcases List.mem_append.1 hx with h1 | h1
    · exact List.mem_append_left _ (h.shut x h1 hne m hmm he)
    · exact hy.shut x h1 m hmm he
theorem Seen.whole {ms : List I2} {s : Int} {V X : List Int} (h : Seen ms s V X) (hs : s ∈ X) (ha : ∀ m ∈ ms, m.2 = s → m.1 ∈ V ++ X) : Sought ms s V X where
  nd := h.nd
  rch := h.rch
  shut x hx m hm he := by
    by_cases hne : x = s
    · subst hne; exact ha m hm he
    · exact h.shut x hx hne m hm he
  self := List.mem_append_right _ hs
/-- All ends so far were searched. -/
structure SeenK (p : Pc) (V : List Int) (k : Nat) : Prop where
  nd : V.Nodup
  ends : ∀ x ∈ V, Ends p x
  shut : ∀ x ∈ V, ∀ m ∈ p.ms, m.2 = x → m.1 ∈ V
  all : ∀ s : Int, endAt p s → s < (k : Int) → s ∈ V
theorem SeenK.zero (p : Pc) : SeenK p [] 0 := ⟨by simp, by simp, by simp, fun s h h' => by have := h.1; omega⟩
theorem SeenK.skip {p : Pc} {V : List Int} {k : Nat} (h : SeenK p V k) {m : I2} (hm : m ∈ p.ms) (he : m.1 = (k : Int)) : SeenK p V (k + 1) :=
  ⟨h.nd, h.ends, h.shut, fun s hs hk => by
    by_cases hsk : s = (k : Int)
    · subst hsk; exact absurd he (hs.2.2 m hm)
    · exact h.all s hs (by omega)⟩
theorem SeenK.next {p : Pc} {V X : List Int} {k : Nat} (h : SeenK p V k) (hk : endAt p (k : Int)) (hs : Sought p.ms (k : Int) V X) : SeenK p (V ++ X) (k + 1) :=
  ⟨hs.nd, fun x hx => by
    rcases List.mem_append.1 hx with h1 | h1
    · exact h.ends x h1
    · exact ⟨_, hk, hs.rch x h1⟩, fun x hx m hm he => by
    rcases List.mem_append.1 hx with h1 | h1
    · exact List.mem_append_left _ (h.shut x h1 m hm he)
    · exact hs.shut x h1 m hm he, fun s hs' hk' => by
    by_cases hsk : s = (k : Int)
    · subst hsk; exact hs.self
    · exact List.mem_append_left _ (h.all s hs' (by omega))⟩
theorem SeenK.done {p : Pc} {V : List Int} (h : SeenK p V p.ss.length) (x : Int) : x ∈ V ↔ endB p x = true := by
  rw [endB_iff]
  constructor
  · exact h.ends x
  · rintro ⟨t, ht, hr⟩
    exact hr.back (V := fun x => x ∈ V) (fun m hm h2 => h.shut _ h2 m hm rfl) (h.all t ht ht.2.1)

/-! Rounds over the moves: v[a] is set if v[b] is. -/
def swp1 (v : List Bool) (m : I2) : List Bool := if v[m.2.toNat]?.getD false = true then v.set m.1.toNat true else v
def swp (ms : List I2) (v : List Bool) : List Bool := ms.foldl swp1 v
def swpN (ms : List I2) : Nat → List Bool → List Bool
  | 0, v => v
  | k + 1, v => swp ms (swpN ms k v)
theorem swp1_len (v : List Bool) (m : I2) : (swp1 v m).length = v.length := by unfold swp1; split <;> simp
theorem swp_len : ∀ (ms : List I2) (v : List Bool), (swp ms v).length = v.length
  | [], _ => rfl
  | m :: ms, v => (swp_len ms (swp1 v m)).trans (swp1_len v m)
theorem swpN_len (ms : List I2) : ∀ (k : Nat) (v : List Bool), (swpN ms k v).length = v.length
  | 0, _ => rfl
  | k + 1, v => (swp_len ms _).trans (swpN_len ms k v)
def onAt (v : List Bool) (i : Nat) : Prop := v[i]? = some true
theorem swp1_on {v : List Bool} {m : I2} {i : Nat} (h : onAt v i) : onAt (swp1 v m) i := by
  unfold swp1 onAt at *
  split
  · rw [List.getElem?_set]
    split
    · have hi := (List.getElem?_eq_some_iff.1 h).1
      rw [if_pos (by omega)]
    · exact h
  · exact h
theorem swp_on : ∀ (ms : List I2) {v : List Bool} {i : Nat}, onAt v i → onAt (swp ms v) i
  | [], _, _, h => h
  | _ :: ms, _, _, h => swp_on ms (swp1_on h)
theorem swp1_only {v : List Bool} {m : I2} {i : Nat} (h : onAt (swp1 v m) i) : onAt v i ∨ (i = m.1.toNat ∧ onAt v m.2.toNat) := by
  unfold swp1 onAt at *
  split at h
  case isTrue hb =>
    rw [List.getElem?_set] at h
    split at h
    case isTrue he =>
      refine .inr ⟨he.symm, ?_⟩
      cases hv : v[m.2.toNat]? with
      | none => rw [hv] at hb; simp at hb
      | some b => rw [hv] at hb; simp at hb; rw [hb]
    case isFalse => exact .inl h
  case isFalse => exact .inl h
/-- How many are set. -/
def onN (v : List Bool) : Nat := v.countP (· == true)
theorem onN_le (v : List Bool) : onN v ≤ v.length := List.countP_le_length
theorem onN_set {v : List Bool} {i : Nat} (hi : i < v.length) (h : ¬ onAt v i) : onN (v.set i true) = onN v + 1 := by
  unfold onN onAt at *
  have e : v[i] = false := by
    cases hb : v[i] with
    | false => rfl
    | true => exact absurd (by rw [List.getElem?_eq_getElem hi, hb]) h
  rw [List.countP_set hi, e]
  simp
theorem set_same {v : List Bool} {i : Nat} (h : onAt v i) : v.set i true = v := by
  apply List.ext_getElem?
  intro j
  rw [List.getElem?_set]
  split
  case isTrue he =>
    subst he
    have hi := (List.getElem?_eq_some_iff.1 h).1
    rw [if_pos hi]
    exact h.symm
  case isFalse => rfl
theorem set_out {v : List Bool} {i : Nat} (h : ¬ i < v.length) : v.set i true = v := List.set_eq_of_length_le (by omega)
theorem swp1_grow (v : List Bool) (m : I2) : swp1 v m = v ∨ onN v < onN (swp1 v m) := by
  by_cases hb : v[m.2.toNat]?.getD false = true
  · have e : swp1 v m = v.set m.1.toNat true := if_pos hb
    rw [e]
    by_cases hi : m.1.toNat < v.length
    · by_cases ho : onAt v m.1.toNat
      · exact .inl (set_same ho)
      · exact .inr (by rw [onN_set hi ho]; omega)
    · exact .inl (set_out hi)
  · exact .inl (if_neg hb)
theorem swp_grow : ∀ (ms : List I2) (v : List Bool), (swp ms v = v ∧ ∀ m ∈ ms, swp1 v m = v) ∨ onN v < onN (swp ms v)
  | [], _ => .inl ⟨rfl, by simp⟩
  | m :: ms, v => by
    rcases swp1_grow v m with h | h
    · rcases swp_grow ms v with ⟨h1, h2⟩ | h1
      · refine .inl ⟨by show swp ms (swp1 v m) = v; rw [h, h1], fun x hx => ?_⟩
        rcases List.mem_cons.1 hx with rfl | hx
        · exact h
        · exact h2 x hx
      · exact .inr (by show onN v < onN (swp ms (swp1 v m)); rw [h]; exact h1)
    · right
      show onN v < onN (swp ms (swp1 v m))
      rcases swp_grow ms (swp1 v m) with ⟨h1, -⟩ | h1
      · rw [h1]; exact h
      · omega
theorem swp_still {v : List Bool} : ∀ {ms : List I2}, (∀ m ∈ ms, swp1 v m = v) → swp ms v = v
  | [], _ => rfl
  | m :: ms, h => by
    show swp ms (swp1 v m) = v
    rw [h m (by simp)]
    exact swp_still fun x hx => h x (List.mem_cons_of_mem _ hx)
theorem swpN_grow (ms : List I2) (v : List Bool) : ∀ k : Nat, (∀ m ∈ ms, swp1 (swpN ms k v) m = swpN ms k v) ∨ onN v + k ≤ onN (swpN ms k v)
  | 0 => .inr (Nat.le_refl _)
  | k + 1 => by
    rcases swpN_grow ms v k with h | h
    · rcases swp_grow ms (swpN ms k v) with ⟨h1, h2⟩ | h1
      · exact .inl (by show ∀ m ∈ ms, swp1 (swp ms (swpN ms k v)) m = swp ms (swpN ms k v); rw [h1]; exact h2)
      · exfalso
        rw [swp_still h] at h1
        omega
    · rcases swp_grow ms (swpN ms k v) with ⟨h1, h2⟩ | h1
      · exact .inl (by show ∀ m ∈ ms, swp1 (swp ms (swpN ms k v)) m = swp ms (swpN ms k v); rw [h1]; exact h2)
      · exact .inr (by show onN v + (k + 1) ≤ onN (swp ms (swpN ms k v)); omega)
/-- As many rounds as there are stages: nothing is left to be set. -/
theorem swpN_shut {ms : List I2} {v : List Bool} (hm : MvIn v.length ms) (m : I2) (hmm : m ∈ ms) (h : onAt (swpN ms v.length v) m.2.toNat) : onAt (swpN ms v.length v) m.1.toNat := by
  have key : ∀ m ∈ ms, swp1 (swpN ms v.length v) m = swpN ms v.length v := by
    rcases swpN_grow ms v v.length with h1 | h1
    · exact h1
    · have h2 := onN_le (swpN ms v.length v)
      rw [swpN_len] at h2
      have h0 : onN v = 0 := by omega
      have hno : ∀ i, ¬ onAt v i := by
        intro i hi
        unfold onN at h0
        rw [List.countP_eq_zero] at h0
        exact h0 true (List.mem_of_getElem? hi) rfl
      have hz : ∀ m : I2, swp1 v m = v := by
        intro m
        refine if_neg fun hb => ?_
        cases hv : v[m.2.toNat]? with
        | none => rw [hv] at hb; simp at hb
        | some b => rw [hv] at hb; simp at hb; exact hno _ (by unfold onAt; rw [hv, hb])
      have hs : ∀ k, swpN ms k v = v := by
        intro k
        induction k with
        | zero => rfl
        | succ k ih =>
          show swp ms (swpN ms k v) = v
          rw [ih]
          exact swp_still fun m _ => hz m
      intro m _
      rw [hs]
      exact hz m
  have h1 := key m hmm
  have hb : (swpN ms v.length v)[m.2.toNat]?.getD false = true := by unfold onAt at h; rw [h]; rfl
  unfold swp1 at h1
  rw [if_pos hb] at h1
  rw [← h1]
  unfold onAt
  have hl := (hm m hmm).1
  rw [List.getElem?_set, if_pos rfl, if_pos (by rw [swpN_len]; omega)]
end Go.Proofs.YtebdkmlganalaaaGreatDoor

namespace Go.Proofs.YtebdkmlganalaaaGreatDoor
open Go.RowKit Go.Shelf

def IntV (v : Value) : Prop := ∃ n : Int, v = .int .i64 n
set_option maxRecDepth 100000 in
theorem checkInt (w : World) (em : Bool) (n : Int) : (Instr.checkKey em 10000 3 (.int .i64 n)).run Tryz.prog w = .ok () w := by
  rw [show (10000 : Nat) = 9999 + 1 from rfl]
  unfold Instr.checkKey
  simp [run_underlying Tryz.underlying3]
theorem nowInt (s : Int) : ∀ (es : List MapEntry) (i : Nat), (∀ e ∈ es, IntV e.key) →
    (Instr.findNow (.int .i64) (.int .i64 s) es i = some none ∧ ∀ e ∈ es, e.key ≠ .int .i64 s) ∨ ∃ (j : Nat) (e : MapEntry), Instr.findNow (.int .i64) (.int .i64 s) es i = some (some (i + j, e.val)) ∧ es[j]? = some e ∧ e.key = .int .i64 s
  | [], i, _ => .inl ⟨rfl, by simp⟩
  | x :: es, i, h => by
    obtain ⟨t, ht⟩ := h x List.mem_cons_self
    by_cases hst : s = t
    · refine .inr ⟨0, x, ?_, rfl, by rw [ht, hst]⟩
      unfold Instr.findNow
      rw [ht]
      simp [Instr.sameNow, hst]
    · have hne : x.key ≠ .int .i64 s := fun e => hst (by rw [ht] at e; injection e with _ e; exact e.symm)
      have hstep : Instr.findNow (.int .i64) (.int .i64 s) (x :: es) i = Instr.findNow (.int .i64) (.int .i64 s) es (i + 1) := by
        rw [Instr.findNow, ht]
        have hb : (s == t) = false := beq_eq_false_iff_ne.2 hst
        simp [Instr.sameNow, hb]
      rw [hstep]
      rcases nowInt s es (i + 1) (fun e he => h e (List.mem_cons_of_mem _ he)) with ⟨h2, h3⟩ | ⟨j, e, h2, h3, h4⟩
      · refine .inl ⟨h2, fun e he => ?_⟩
        rcases List.mem_cons.1 he with rfl | he
        · exact hne
        · exact h3 e he
      · exact .inr ⟨j + 1, e, by rw [h2, show i + 1 + j = i + (j + 1) by omega], by simpa using h3, h4⟩
theorem askInt (w : World) (s : Int) (es : List MapEntry) (h : ∀ e ∈ es, IntV e.key) :
    ((Instr.findKey 3 (.int .i64 s) es).run Tryz.prog w = .ok none w ∧ ∀ e ∈ es, e.key ≠ .int .i64 s) ∨ ∃ (j : Nat) (e : MapEntry), (Instr.findKey 3 (.int .i64 s) es).run Tryz.prog w = .ok (some (j, e.val)) w ∧ es[j]? = some e ∧ e.key = .int .i64 s := by
  have hu := run_underlying Tryz.underlying3 w
  rcases nowInt s es 0 h with ⟨h2, h3⟩ | ⟨j, e, h2, h3, h4⟩
  · exact .inl ⟨by simp [Instr.findKey, hu, h2], h3⟩
  · exact .inr ⟨j, e, by simp [Instr.findKey, hu, h2], h3, h4⟩
theorem kysInt : Kys Tryz.prog 3 IntV where
  check w em v hv := by obtain ⟨s, rfl⟩ := hv; exact checkInt w em s
  find w x hx es hes := by
    obtain ⟨s, rfl⟩ := hx
    exact askInt w s es hes
  stays w v hv := by
    obtain ⟨s, rfl⟩ := hv
    have : Instr.sameBits 10000 (.int .i64 s) (.int .i64 s) = true := by
      rw [show (10000 : Nat) = 9999 + 1 from rfl]
      simp [Instr.sameBits]
    simp [Instr.keyThatStays, this]
/-- The stages that were seen, as a map. -/
def kInts (l : List Int) : List (Value × Value) := l.map fun k => (.int .i64 k, .bool true)
theorem kInts_G (l : List Int) : ∀ p ∈ kInts l, IntV p.1 := by
  intro p hp
  obtain ⟨k, -, rfl⟩ := List.mem_map.1 hp
  exact ⟨k, rfl⟩
theorem kInts_mem {l : List Int} {x : Int} (h : x ∈ l) : ((.int .i64 x : Value), Value.bool true) ∈ kInts l := List.mem_map.2 ⟨x, h, rfl⟩
theorem kInts_ne {l : List Int} {x : Int} (h : x ∉ l) : ∀ p ∈ kInts l, p.1 ≠ .int .i64 x := by
  intro p hp he
  obtain ⟨k, hk, rfl⟩ := List.mem_map.1 hp
  injection he with _ he
  exact h (he ▸ hk)
theorem kInts_snoc (l : List Int) (x : Int) : kInts (l ++ [x]) = kInts l ++ [((.int .i64 x : Value), Value.bool true)] := by unfold kInts; rw [List.map_append]; rfl
/-- A look-up: whether the stage was seen. -/
theorem kInts_look {w : World} {b : Nat} {l : List Int} (h : MapV w b (kInts l)) (x : Int) : (Instr.lookup 138 (.map (some b)) (.int .i64 x) false).run Tryz.prog w = .ok (.bool (decide (x ∈ l))) w := by
  by_cases hx : x ∈ l
  · rw [decide_eq_true hx]
    exact h.look_some kysInt Tryz.underlying138 (kInts_G l) (kInts_mem hx) false
  · rw [decide_eq_false hx]
    exact h.look_none kysInt Tryz.underlying138 (kInts_G l) ⟨x, rfl⟩ (kInts_ne hx) (Tryz.zeroValue4 w) false
theorem kInts_up {w : World} {b : Nat} {l : List Int} (h : MapV w b (kInts l)) {x : Int} (hx : x ∉ l) :
    ∃ w', (Instr.mapUpdate 138 (.map (some b)) (.int .i64 x) (.bool true)).run Tryz.prog w = .ok () w' ∧ MapV w' b (kInts (l ++ [x])) ∧ w.grownBy w' (some b) := by
  rw [kInts_snoc]
  exact h.upd_none kysInt Tryz.underlying138 (kInts_G l) ⟨x, rfl⟩ (kInts_ne hx) (.bool true)

end Go.Proofs.YtebdkmlganalaaaGreatDoor

namespace Go.Proofs.YtebdkmlganalaaaGreatDoor
open Go.RowKit Go.Shelf

theorem MapV.only {w w' : World} {b : Nat} {L : List (Value × Value)} {F : Foot} (h : MapV w b L) (hO : Only F w w') (hF : ¬ F b) : MapV w' b L := h.of_block (hO.block b h.lt hF)
def BackPost (w : World) (b : Nat) (ms : List I2) (s : Int) (V : List Int) (e : Ending) (w' : World) : Prop :=
  e = .returned (.tuple #[]) ∧ ∃ X, Sought ms s V X ∧ MapV w' b (kInts (V ++ X)) ∧ Only (fun i => i = b) w w'

end Go.Proofs.YtebdkmlganalaaaGreatDoor

namespace Go.Proofs.YtebdkmlganalaaaGreatDoor
open Go.RowKit Go.Shelf

theorem MapV.ne_blk {w : World} {b g : Nat} {L : List (Value × Value)} {t : TypeId} {cs : Array Value} (h : MapV w b L) (k : Blk w g t cs) : b ≠ g := by
  rintro rfl
  obtain ⟨es, cl, h1, -⟩ := h
  unfold Blk at k
  rw [h1] at k
  simp at k
theorem MapV.ne_own {w : World} {b base size n : Nat} {e : TypeId} {v : Value} {xs : List Value} {L : List (Value × Value)} (h : MapV w b L) (o : w.ownsRow base e size v n xs) : v.ownBlock ≠ some b := by
  rcases o.2 with ⟨rfl, _⟩ | ⟨g, cap, cur, rfl, _, hh, _⟩
  · simp [Value.ownBlock]
  · intro he
    have : g = b := by simpa [Value.ownBlock] using he
    subst this
    exact h.ne_blk (g := g) (t := e) hh rfl
theorem own_own_ne {w : World} {base base' size size' n n' : Nat} {e e' : TypeId} {v v' : Value} {xs xs' : List Value} (o : w.ownsRow base e size v n xs) (o' : w.ownsRow base' e' size' v' n' xs') (he : e ≠ e') {b : Nat} (hb : v.ownBlock = some b) : v'.ownBlock ≠ some b := by
  rcases o.2 with ⟨rfl, _⟩ | ⟨g, cap, cur, rfl, _, hh, _⟩
  · simp [Value.ownBlock] at hb
  · have : g = b := by simpa [Value.ownBlock] using hb
    subst this
    exact own_blk_ne o' (g := g) (t := e) hh fun h => he h.symm
theorem row_some {w : World} {base size n c : Nat} {e : TypeId} {A : Option Addr} {xs : List Value} (h : w.ownsRow base e size (.slice A n c) n xs) (hn : 0 < n) : ∃ g, A = some ⟨g, 0, none⟩ ∧ base ≤ g ∧ g < w.heap.size := by
  rcases h.2 with ⟨_, h0⟩ | ⟨g, cap, cur, hv, hb, hh, _⟩
  · omega
  · injection hv with hA h2 h3
    exact ⟨g, hA, hb, (Array.getElem?_eq_some_iff.1 hh).1⟩
theorem StopsAt.back {w W : World} {B : Nat} {A : Option Addr} {S : List Stp2} (h : StopsAt W B A S) (hb : Below B w W) : StopsAt w B A S := fun i s hi => by
  obtain ⟨g, off, hA, hg, c0, c1⟩ := h i s hi
  exact ⟨g, off, hA, hg, (hb.cell (p := ⟨g, off + i * 2, none⟩) hg).symm.trans c0, (hb.cell (p := ⟨g, off + i * 2 + 1, none⟩) hg).symm.trans c1⟩
def Z8 : Array Value := #[.string ⟨#[]⟩, .int .i64 0, .slice none 0 0, .string ⟨#[]⟩, .int .i64 0, .slice none 0 0, .slice none 0 0, .slice none 0 0]
theorem only_set3 {W : World} {g i : Nat} {v : Value} : Only (fun j => j = g) W (W.setCell ⟨g, i, none⟩ v) := (Only.refl (fun j => j = g) W).setCell (p := ⟨g, i, none⟩) (.inl rfl) v
/-- Two cells of a matter that are stored in any order. -/
def TwoS (W0 : World) (bo : Nat) (c : Value → Value → Array Value) (V : World) : Prop := Only (fun i => i = bo) W0 V ∧ ∃ a b, Blk V bo 27 (c a b)
def TwoR (bo i j : Nat) (p q : Value) (w w' : World) : Prop := (w.cell? ⟨bo, i, none⟩ = some p → w'.cell? ⟨bo, i, none⟩ = some p) ∧ (w.cell? ⟨bo, j, none⟩ = some q → w'.cell? ⟨bo, j, none⟩ = some q)
def cellV (bo i : Nat) (p : Value) : Phi := ⟨none, fun _ _ w => w.cell? ⟨bo, i, none⟩ = some p⟩
structure ApS (w W : World) (Cm Cg : Array Value) (bo : Nat) (C : Array Value) (bn : Nat) (grs : List S2) (vl : Value) (K : Nat) (lv : List LmV) : Prop where
  hb : Below w.heap.size w W
  km : Blk W w.heap.size 27 Cm
  kg : Blk W (w.heap.size + 1) 30 Cg
  kz : Blk W (w.heap.size + 1 + 1 + 1 + 1) 27 Z8
  ko : Blk W bo 27 C
  nm : MapV W bn (nmL grs)
  ol : W.ownsRow w.heap.size 66 5 vl K (lmCells lv)
  lo : w.heap.size + 1 + 1 + 1 + 1 < bo
  ln : w.heap.size ≤ bn
section
variable {w W W' : World} {Cm Cg C : Array Value} {bo bn K : Nat} {grs : List S2} {vl : Value} {lv : List LmV}
theorem ApS.below (h : ApS w W Cm Cg bo C bn grs vl K lv) (hb : Below W.heap.size W W') : ApS w W' Cm Cg bo C bn grs vl K lv :=
  ⟨h.hb.trans (hb.mono h.hb.size), h.km.below hb h.km.lt, h.kg.below hb h.kg.lt, h.kz.below hb h.kz.lt, h.ko.below hb h.ko.lt, h.nm.below hb h.nm.lt, (Only.of_below hb (fun _ => False)).owns h.ol (fun _ _ f => f), h.lo, h.ln⟩
theorem ApS.only {F : Foot} (h : ApS w W Cm Cg bo C bn grs vl K lv) (ho : Only F W W') (h1 : ∀ i, F i → w.heap.size ≤ i) (hm : ¬ F w.heap.size) (hg : ¬ F (w.heap.size + 1)) (hz : ¬ F (w.heap.size + 1 + 1 + 1 + 1)) (hbo : ¬ F bo) (hbn : ¬ F bn) (hl : ∀ b, vl.ownBlock = some b → ¬ F b) : ApS w W' Cm Cg bo C bn grs vl K lv :=
  ⟨h.hb.trans (ho.below h.hb.size h1), ho.blk h.km hm, ho.blk h.kg hg, ho.blk h.kz hz, ho.blk h.ko hbo, h.nm.only ho hbn, ho.owns h.ol hl, h.lo, h.ln⟩
/-- A row of another type grows, or an element of it is stored. -/
theorem ApS.row {n size : Nat} {e : TypeId} {v : Value} {xs : List Value} (h : ApS w W Cm Cg bo C bn grs vl K lv) (o : W.ownsRow w.heap.size e size v n xs) (e1 : e ≠ 27) (e2 : e ≠ 30) (e3 : 66 ≠ e) (hg : W.grownBy W' v.ownBlock) : ApS w W' Cm Cg bo C bn grs vl K lv :=
  h.only (Only.of_grown hg) (fun i hi => (o.lt i hi).1) (own_blk_ne o h.km e1) (own_blk_ne o h.kg e2) (own_blk_ne o h.kz e1) (own_blk_ne o h.ko e1) (h.nm.ne_own o) (fun _ hb => own_own_ne h.ol o e3 hb)
/-- Another map takes one more. -/
theorem ApS.map {ba : Nat} {L : List (Value × Value)} (h : ApS w W Cm Cg bo C bn grs vl K lv) (hM : MapV W ba L) (hlo : w.heap.size ≤ ba) (hne : ba ≠ bn) (hg : W.grownBy W' (some ba)) : ApS w W' Cm Cg bo C bn grs vl K lv := by
  have e : ∀ i, some ba = some i → ba = i := fun i h => by injection h
  exact h.only (Only.of_grown hg) (fun i hi => by have := e i hi; omega) (fun f => hM.ne_blk h.km (e _ f)) (fun f => hM.ne_blk h.kg (e _ f)) (fun f => hM.ne_blk h.kz (e _ f)) (fun f => hM.ne_blk h.ko (e _ f)) (fun f => hne (e _ f)) (fun b hb f => hM.ne_own h.ol (by rw [hb, e _ f]))
/-- A cell of the result. -/
theorem ApS.set (h : ApS w W Cm Cg bo C bn grs vl K lv) (i : Nat) (v : Value) : ApS w (W.setCell ⟨bo, i, none⟩ v) Cm Cg bo (C.setIfInBounds i v) bn grs vl K lv := by
  have hlo := h.lo
  have ho : Only (fun j => j = bo) W (W.setCell ⟨bo, i, none⟩ v) := only_set3
  exact ⟨h.hb.setCell (p := ⟨bo, i, none⟩) (show w.heap.size ≤ bo by omega) v, ho.blk h.km (by omega), ho.blk h.kg (by omega), ho.blk h.kz (by omega), h.ko.set_ i v, h.nm.only ho (fun f => h.nm.ne_blk h.ko f), ho.owns h.ol (fun b hb f => own_blk_ne h.ol h.ko (by decide) (by rw [hb, f])), h.lo, h.ln⟩
/-- The row of limits turns. -/
theorem ApS.lset {g n cap : Nat} {lk : List LmV} (h : ApS w W Cm Cg bo C bn grs (.slice (some ⟨g, 0, none⟩) n cap) K lv) (ho : W'.ownsRow w.heap.size 66 5 (.slice (some ⟨g, 0, none⟩) n cap) K (lmCells lk)) (hO : Only (fun i => i = g) W W') : ApS w W' Cm Cg bo C bn grs (.slice (some ⟨g, 0, none⟩) n cap) K lk := by
  have hv : (Value.slice (some ⟨g, 0, none⟩) n cap).ownBlock = some g := rfl
  have hlo := (h.ol.lt g hv).1
  have ne : ∀ {t : TypeId} {c : Nat} {cs : Array Value}, Blk W c t cs → 66 ≠ t → ¬ c = g := fun hk ht e => own_blk_ne h.ol hk ht (by rw [hv, e])
  exact ⟨h.hb.trans (hO.below h.hb.size fun i hi => by omega), hO.blk h.km (ne h.km (by decide)), hO.blk h.kg (ne h.kg (by decide)), hO.blk h.kz (ne h.kz (by decide)), hO.blk h.ko (ne h.ko (by decide)), h.nm.only hO (fun e => h.nm.ne_own h.ol (by rw [hv, e])), ho, h.lo, h.ln⟩
end
/-- One limit of a row is stored. -/
theorem row5 {W : World} {base g n cap k : Nat} {lv : List LmV} (o : W.ownsRow base 66 5 (.slice (some ⟨g, 0, none⟩) n cap) n (lmCells lv)) (x : LmV) (hk : k < lv.length) :
    (((((W.setCell ⟨g, k * 5, none⟩ (.string x.1.id)).setCell ⟨g, k * 5 + 1, none⟩ (.int .i64 x.1.n)).setCell ⟨g, k * 5 + 2, none⟩ (.int .i64 x.1.u)).setCell ⟨g, k * 5 + 3, none⟩ (.int .i64 x.1.f)).setCell ⟨g, k * 5 + 4, none⟩ (.slice x.2.1 x.1.S.length x.2.2)).ownsRow base 66 5 (.slice (some ⟨g, 0, none⟩) n cap) n (lmCells (lv.set k x)) ∧
    Only (fun i => i = g) W (((((W.setCell ⟨g, k * 5, none⟩ (.string x.1.id)).setCell ⟨g, k * 5 + 1, none⟩ (.int .i64 x.1.n)).setCell ⟨g, k * 5 + 2, none⟩ (.int .i64 x.1.u)).setCell ⟨g, k * 5 + 3, none⟩ (.int .i64 x.1.f)).setCell ⟨g, k * 5 + 4, none⟩ (.slice x.2.1 x.1.S.length x.2.2)) := by
  rw [lmCells_set lv k x hk]
  have s0 := (o.stored (k * 5) (.string x.1.id)).1
  have s1 := (s0.stored (k * 5 + 1) (.int .i64 x.1.n)).1
  have s2 := (s1.stored (k * 5 + 2) (.int .i64 x.1.u)).1
  have s3 := (s2.stored (k * 5 + 3) (.int .i64 x.1.f)).1
  have s4 := (s3.stored (k * 5 + 4) (.slice x.2.1 x.1.S.length x.2.2)).1
  exact ⟨s4, (((((Only.refl (fun i => i = g) W).setCell (p := ⟨g, k * 5, none⟩) (.inl rfl) _).setCell (p := ⟨g, k * 5 + 1, none⟩) (.inl rfl) _).setCell (p := ⟨g, k * 5 + 2, none⟩) (.inl rfl) _).setCell (p := ⟨g, k * 5 + 3, none⟩) (.inl rfl) _).setCell (p := ⟨g, k * 5 + 4, none⟩) (.inl rfl) _⟩
end Go.Proofs.YtebdkmlganalaaaGreatDoor
