/- Matters, procedures, domains as plain data: what is formed, proper, valid; moves and rights. -/
import Derived.Test.YtgfahifdmacmhaaGreatDoorTb
namespace Go.Proofs.YtgfahifdmacmhaaGreatDoor

abbrev Rt := ByteArray × Int
abbrev I2 := Int × Int
/-- A procedure, a fact, a matter. -/
structure Pc where
  name : ByteArray
  ss : List ByteArray
  ms : List I2
structure Fc where
  name : ByteArray
  kind : Int
  lo : Int
  hi : Int
structure Mt where
  id : ByteArray
  o : Int
  cs : List Int
  pr : ByteArray
  st : Int
  mv : List Int
  rs : List Rt
  ls : List Lm
def Mt.zero : Mt := ⟨⟨#[]⟩, 0, [], ⟨#[]⟩, 0, [], [], []⟩
def nameB (s : ByteArray) : Bool := nmB s.data.toList

/-! Lists of different things. -/
section
variable {α κ : Type} {key : α → κ} {good : α → Bool} {l : List α}
/-- So far all are good, and different. -/
def difTo (key : α → κ) (good : α → Bool) (l : List α) (k : Nat) : Prop := (l.take k).all good = true ∧ ((l.take k).map key).Nodup
theorem difTo_zero : difTo key good l 0 := ⟨rfl, by simp⟩
theorem take_snoc' {k : Nat} {x : α} (h : l[k]? = some x) : l.take (k + 1) = l.take k ++ [x] := by
  obtain ⟨hk, hx⟩ := List.getElem?_eq_some_iff.1 h
  rw [List.take_succ_eq_append_getElem hk, hx]
theorem difTo_next {k : Nat} {x : α} (h : difTo key good l k) (hx : l[k]? = some x) (hg : good x = true) (hn : key x ∉ (l.take k).map key) : difTo key good l (k + 1) := by
  unfold difTo
  rw [take_snoc' hx]
  refine ⟨by rw [List.all_append, h.1]; simp [hg], ?_⟩
  rw [List.map_append, List.nodup_append]
  refine ⟨h.2, by simp, fun a ha b hb => ?_⟩
  have : b = key x := by simpa using hb
  subst this
  rintro rfl
  exact hn ha
variable [DecidableEq κ]
/-- All are good, their keys are different, there are at most 60. -/
def difB (key : α → κ) (good : α → Bool) (l : List α) : Bool := l.all good && (decide ((l.map key).Nodup) && decide (l.length ≤ 60))
theorem difB_iff : difB key good l = true ↔ (∀ x ∈ l, good x = true) ∧ (l.map key).Nodup ∧ l.length ≤ 60 := by
  unfold difB
  simp only [Bool.and_eq_true, decide_eq_true_eq, List.all_eq_true]
theorem difB_bad {k : Nat} {x : α} (hx : l[k]? = some x) (hg : good x = false) : difB key good l = false := by
  have : l.all good = false := by rw [List.all_eq_false]; exact ⟨x, List.mem_of_getElem? hx, by rw [hg]; simp⟩
  unfold difB
  rw [this, Bool.false_and]
theorem difB_twice {k : Nat} {x : α} (hx : l[k]? = some x) (hn : key x ∈ (l.take k).map key) : difB key good l = false := by
  have : ¬ (l.map key).Nodup := fun h => by
    have e : l = (l.take k ++ [x]) ++ l.drop (k + 1) := by rw [← take_snoc' hx, List.take_append_drop]
    rw [e, List.map_append, List.nodup_append] at h
    have h2 := h.1
    rw [List.map_append, List.nodup_append] at h2
    exact h2.2.2 _ hn _ (by simp) rfl
  unfold difB
  rw [decide_eq_false this, Bool.false_and, Bool.and_false]
theorem difB_end (h : difTo key good l l.length) : difB key good l = decide (l.length ≤ 60) := by
  obtain ⟨h1, h2⟩ := h
  rw [List.take_length] at h1 h2
  unfold difB
  rw [h1, decide_eq_true h2, Bool.true_and, Bool.true_and]
end

/-! Procedures, domains. -/
def mvB (n : Nat) (m : I2) : Bool := decide (m.1 ≠ m.2 ∧ 0 ≤ min m.1 m.2 ∧ max m.1 m.2 < (n : Int))
def pcB (p : Pc) : Bool := nameB p.name && (decide (0 < p.ss.length) && (difB id nameB p.ss && difB id (mvB p.ss.length) p.ms))
def fcB (f : Fc) : Bool := (decide (f.kind = 1 ∧ f.lo = 0 ∧ f.hi = 1) || decide ((f.kind = 2 ∨ f.kind = 3) ∧ 0 ≤ f.lo ∧ f.lo ≤ f.hi ∧ f.hi ≤ 1000000)) && nameB f.name
def dmB (d : List Fc) : Bool := difB (·.name) fcB d
def inB (f : Fc) (n : Int) : Bool := decide (f.lo ≤ n ∧ n ≤ f.hi)
def fitB (d : List Fc) (c : List Int) : Bool := dmB d && (decide (c.length = d.length) && (d.zip c).all fun x => inB x.1 x.2)

/-! Matters. -/
/-- Days that do not decrease. -/
def upB : Int → List Int → Bool
  | _, [] => true
  | a, x :: xs => decide (a ≤ x ∧ x ≤ 1000000) && upB x xs
def rtB (o : Int) (r : Rt) : Bool := nameB r.1 && (decide (o ≤ r.2) && isB r.2)
def fmB (m : Mt) : Bool := nameB m.id && (nameB m.pr && (isB m.o && (decide (0 ≤ m.st ∧ m.st < 60) && (m.cs.all isB && (decide (m.cs.length ≤ 60) && (upB m.o m.mv && (decide (m.mv.length ≤ 60) && (difB (·.1) (rtB m.o) m.rs && difB (·.id) prB m.ls))))))))
theorem fmB_iff {m : Mt} : fmB m = true ↔ nameB m.id = true ∧ nameB m.pr = true ∧ isB m.o = true ∧ (0 ≤ m.st ∧ m.st < 60) ∧ (∀ x ∈ m.cs, isB x = true) ∧ m.cs.length ≤ 60 ∧ upB m.o m.mv = true ∧ m.mv.length ≤ 60 ∧ difB (·.1) (rtB m.o) m.rs = true ∧ difB (·.id) prB m.ls = true := by
  unfold fmB
  simp only [Bool.and_eq_true, decide_eq_true_eq, List.all_eq_true]
def vldB (m : Mt) (p : Pc) (d : List Fc) : Bool := fmB m && (pcB p && (dmB d && (decide (m.pr = p.name) && (decide (m.st < (p.ss.length : Int)) && fitB d m.cs))))
theorem vldB_iff {m : Mt} {p : Pc} {d : List Fc} : vldB m p d = true ↔ fmB m = true ∧ pcB p = true ∧ dmB d = true ∧ m.pr = p.name ∧ m.st < (p.ss.length : Int) ∧ fitB d m.cs = true := by
  unfold vldB
  simp only [Bool.and_eq_true, decide_eq_true_eq]
def hasB (l : List Rt) (n : ByteArray) (day : Int) : Bool := l.any fun r => decide (r.1 = n) && decide (r.2 ≤ day)
def lastI (o : Int) (l : List Int) : Int := l.getLast?.getD o
/-- The error of a move. -/
def moveE (m : Mt) (p : Pc) (s day : Int) : Int :=
  if !(fmB m && (pcB p && (decide (m.pr = p.name) && (decide (m.st < (p.ss.length : Int)) && isB day)))) then 1
  else if s < 0 ∨ (p.ss.length : Int) ≤ s then 11
  else if (m.st, s) ∉ p.ms then 12
  else if day < m.o ∨ day < lastI m.o m.mv then 24
  else if 60 ≤ m.mv.length then 2
  else 0
def moveM (m : Mt) (p : Pc) (s day : Int) : Mt := if moveE m p s day = 0 then { m with st := s, mv := m.mv ++ [day] } else Mt.zero
/-- The error of a right that is granted. -/
def grantE (m : Mt) (n : ByteArray) (day : Int) : Int :=
  if !(fmB m && (nameB n && isB day)) then 1
  else if hasB m.rs n 1000000 then 9
  else if day < m.o then 24
  else if 60 ≤ m.rs.length then 2
  else 0
def grantM (m : Mt) (n : ByteArray) (day : Int) : Mt := if grantE m n day = 0 then { m with rs := m.rs ++ [(n, day)] } else Mt.zero

/-! Days in order. -/
def srtB : List Int → Bool
  | [] => true
  | x :: xs => (match xs with | [] => true | y :: _ => decide (x ≤ y)) && srtB xs
theorem upB_srt : ∀ (l : List Int) (a : Int), upB a l = true ↔ srtB l = true ∧ (l = [] ∨ (∃ x, l.head? = some x ∧ a ≤ x) ∧ ∃ y, l.getLast? = some y ∧ y ≤ 1000000)
  | [], a => by simp [upB, srtB]
  | [x], a => by simp [upB, srtB]
  | x :: y :: xs, a => by
    have ih := upB_srt (y :: xs) x
    have e1 : upB a (x :: y :: xs) = (decide (a ≤ x ∧ x ≤ 1000000) && upB x (y :: xs)) := rfl
    have e2 : srtB (x :: y :: xs) = (decide (x ≤ y) && srtB (y :: xs)) := rfl
    have up2 : srtB (y :: xs) = true → ∀ z, (y :: xs).getLast? = some z → y ≤ z := by
      have key : ∀ (l : List Int) (u : Int), srtB (u :: l) = true → ∀ z, (u :: l).getLast? = some z → u ≤ z := by
        intro l
        induction l with
        | nil => intro u _ z hz; simp at hz; omega
        | cons v l ih2 =>
          intro u hs z hz
          have e : srtB (u :: v :: l) = (decide (u ≤ v) && srtB (v :: l)) := rfl
          rw [e, Bool.and_eq_true, decide_eq_true_eq] at hs
          have := ih2 v hs.2 z (by rw [List.getLast?_cons_cons] at hz; exact hz)
          omega
      exact key xs y
    rw [e1, e2, Bool.and_eq_true, Bool.and_eq_true, decide_eq_true_eq, decide_eq_true_eq, ih]
    simp only [reduceCtorEq, false_or, List.head?_cons, Option.some.injEq, exists_eq_left', List.getLast?_cons_cons]
    constructor
    · rintro ⟨⟨h1, h2⟩, h3, h4, z, h5, h6⟩
      exact ⟨⟨h4, h3⟩, h1, z, h5, h6⟩
    · rintro ⟨⟨h4, h3⟩, h1, z, h5, h6⟩
      have := up2 h3 z h5
      exact ⟨⟨h1, by omega⟩, h3, h4, z, h5, h6⟩
theorem upB_app : ∀ (l : List Int) (a d : Int), upB a (l ++ [d]) = (upB a l && decide (lastI a l ≤ d ∧ d ≤ 1000000))
  | [], a, d => by simp only [upB, lastI, List.nil_append, List.getLast?_nil, Option.getD_none, Bool.and_true, Bool.true_and]; exact decide_eq_decide.2 Iff.rfl
  | x :: xs, a, d => by
    show (decide (a ≤ x ∧ x ≤ 1000000) && upB x (xs ++ [d])) = ((decide (a ≤ x ∧ x ≤ 1000000) && upB x xs) && _)
    rw [upB_app xs x d, Bool.and_assoc]
    have : lastI a (x :: xs) = lastI x xs := by
      unfold lastI
      cases xs with
      | nil => rfl
      | cons y ys =>
        rw [List.getLast?_cons_cons]
        cases h : (y :: ys).getLast? with
        | none => simp at h
        | some z => rfl
    rw [this]
end Go.Proofs.YtgfahifdmacmhaaGreatDoor
