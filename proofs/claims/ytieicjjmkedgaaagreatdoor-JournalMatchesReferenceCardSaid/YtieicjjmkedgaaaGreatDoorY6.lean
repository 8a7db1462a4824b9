/- Part 6 of what the laws of this seat stand on: Kf. -/
import Derived.Test.YtieicjjmkedgaaaGreatDoorY5

/- What the sectors of a disk say of a journal; an Append as writes of sectors. No program in sight. -/
namespace Go.Proofs.YtieicjjmkedgaaaGreatDoor

def listF (n : Nat) (f : Nat → List UInt8) : List (List UInt8) := (List.range n).map f
theorem Dk.vws_listF (d : Dk) : d.vws = listF d.n d.vw := rfl
theorem listF_congr {n : Nat} {f g : Nat → List UInt8} (h : ∀ i, i < n → g i = f i) : listF n g = listF n f := List.map_congr_left fun i hi => h i (List.mem_range.1 hi)
/-- The sectors hold a journal with a count and records. -/
structure Good (n : Nat) (f : Nat → List UInt8) (c : Nat) (rs : List (List UInt8)) : Prop where
  n3 : 3 ≤ n
  cnt : cntM (f 0) (f 1) (n - 2) = (c : Int)
  body : ∃ T, foundP 2 (listF c fun i => f (2 + i)) = some T ∧ parseR T = some rs
theorem Good.le {n c : Nat} {f : Nat → List UInt8} {rs : List (List UInt8)} (h : Good n f c rs) : c + 2 ≤ n := by
  have h1 := cntM_le (f 0) (f 1) (n - 2)
  rw [h.cnt] at h1
  have := h.n3
  omega
theorem listF_drop {n c : Nat} {f : Nat → List UInt8} (h : c + 2 ≤ n) : ((listF n f).drop 2).take c = listF c fun i => f (2 + i) := by
  apply List.ext_getElem?
  intro i
  unfold listF
  by_cases hi : i < c
  · rw [List.getElem?_take_of_lt hi, List.getElem?_drop, List.getElem?_map, List.getElem?_range (by omega), List.getElem?_map, List.getElem?_range hi]
    rfl
  · rw [List.getElem?_eq_none (by simp; omega), List.getElem?_eq_none (by simp; omega)]
theorem read_of_good {n c : Nat} {f : Nat → List UInt8} {rs : List (List UInt8)} (h : Good n f c rs) : readS (listF n f) = some (c, rs) := by
  obtain ⟨T, h1, h2⟩ := h.body
  have hl := h.le
  have e0 : (listF n f).getD 0 [] = f 0 := by simp [listF, List.getD, show 0 < n by omega]
  have e1 : (listF n f).getD 1 [] = f 1 := by simp [listF, List.getD, show 1 < n by omega]
  have e2 : (listF n f).length = n := by simp [listF]
  unfold readS
  rw [e0, e1, e2, h.cnt, if_neg (by omega), Int.toNat_natCast, listF_drop hl, h1]
  simp [h2]
theorem good_of_read {n c : Nat} {f : Nat → List UInt8} {rs : List (List UInt8)} (hn : 3 ≤ n) (h : readS (listF n f) = some (c, rs)) : Good n f c rs := by
  have e0 : (listF n f).getD 0 [] = f 0 := by simp [listF, List.getD, show 0 < n by omega]
  have e1 : (listF n f).getD 1 [] = f 1 := by simp [listF, List.getD, show 1 < n by omega]
  have e2 : (listF n f).length = n := by simp [listF]
  unfold readS at h
  rw [e0, e1, e2] at h
  have hle := cntM_le (f 0) (f 1) (n - 2)
  by_cases hneg : cntM (f 0) (f 1) (n - 2) < 0
  · rw [if_pos hneg] at h; cases h
  rw [if_neg hneg] at h
  obtain ⟨k, hk⟩ := Int.eq_ofNat_of_zero_le (Int.not_lt.1 hneg)
  rw [hk, Int.toNat_natCast, listF_drop (by omega)] at h
  cases hf : foundP 2 (listF k fun i => f (2 + i)) with
  | none => rw [hf] at h; cases h
  | some T =>
    rw [hf, Option.bind_some] at h
    cases hp : parseR T with
    | none => rw [hp] at h; cases h
    | some x =>
      rw [hp] at h
      injection h with h
      injection h with h1 h2
      subst h1 h2
      exact ⟨hn, hk, T, hf, hp⟩
theorem Good.of {n c : Nat} {f g : Nat → List UInt8} {rs : List (List UInt8)} (h : Good n f c rs) (hc : cntM (g 0) (g 1) (n - 2) = (c : Int)) (hb : ∀ i, 2 ≤ i → i < 2 + c → g i = f i) : Good n g c rs := by
  obtain ⟨T, h1, h2⟩ := h.body
  refine ⟨h.n3, hc, T, ?_, h2⟩
  rw [← h1]
  congr 1
  exact listF_congr fun i hi => hb _ (by omega) (by omega)
theorem Good.congr {n c : Nat} {f g : Nat → List UInt8} {rs : List (List UInt8)} (h : Good n f c rs) (hb : ∀ i, i < n → g i = f i) : Good n g c rs := by
  have hl := h.le
  refine h.of ?_ fun i _ hi => hb i (by omega)
  rw [hb 0 (by omega), hb 1 (by omega)]
  exact h.cnt
theorem Good.small {n c : Nat} {f : Nat → List UInt8} {rs : List (List UInt8)} (h : Good n f c rs) : ∀ r ∈ rs, r.length ≤ mxB := by
  obtain ⟨T, _, h2⟩ := h.body
  exact (parse_some h2).2
theorem Good.one {n c c' : Nat} {f : Nat → List UInt8} {rs rs' : List (List UInt8)} (h : Good n f c rs) (h' : Good n f c' rs') : c = c' ∧ rs = rs' := by
  have h1 := read_of_good h
  rw [read_of_good h'] at h1
  injection h1 with h1
  injection h1 with h1 h2
  exact ⟨h1.symm, h2.symm⟩

/-- Both heads are in order. -/
def Heads (f : Nat → List UInt8) (c : Nat) : Prop := Hd1 0 c (f 0) ∧ Hd1 1 c (f 1)
theorem Hd1.cnt {p c room : Nat} {v : List UInt8} (h : Hd1 p c v) (hc : c ≤ room) (h8 : c < 100000000) : cntL p v room = (c : Int) := by
  rcases h with rfl | ⟨rfl, rfl⟩
  · exact cntL_head hc h8
  · exact cntL_zero _ _
theorem Hd1.old {p c : Nat} {v : List UInt8} (h : Hd1 p c v) : v = headL p c ∨ v = zeroL := h.imp id And.right
theorem cntL_le (p : Nat) (v : List UInt8) (room : Nat) : cntL p v room ≤ room := by rcases cntL_spec p v room with h | ⟨_, h⟩ | ⟨n, hn, _, h⟩ <;> omega
theorem cntL_ge (p : Nat) (v : List UInt8) (room : Nat) : -1 ≤ cntL p v room := by rcases cntL_spec p v room with h | ⟨_, h⟩ | ⟨n, hn, _, h⟩ <;> omega
theorem hd1_of_cnt {p c room : Nat} {v : List UInt8} (h : cntL p v room = (c : Int)) : Hd1 p c v := by
  rcases cntL_spec p v room with h1 | ⟨h1, h2⟩ | ⟨n, _, h1, h2⟩
  · rw [h1] at h; exact absurd h (by omega)
  · rw [h2] at h; exact .inr ⟨by omega, h1⟩
  · rw [h2] at h
    obtain rfl : n = c := by omega
    exact .inl h1

/-! Writes of rows of sectors. -/
theorem enum_in : ∀ {l : List (List UInt8)} {p i : Nat} {s : List UInt8} (S : Ss), l[i]? = some s → (S.puts (enumW p l)).f (p + i) = s ∧ (S.puts (enumW p l)).e (p + i) = S.f (p + i)
  | [], _, _, _, _, h => by simp at h
  | x :: r, p, 0, s, S, h => by
    obtain rfl : x = s := by simpa using h
    have hf := Ss.puts_far (i := p) (enumW (p + 1) r) (S.put (p, x)) fun q hq => by have := (enumW_mem hq).1; omega
    exact ⟨hf.1.trans (if_pos rfl), hf.2.trans (if_pos rfl)⟩
  | x :: r, p, i + 1, s, S, h => by
    have h1 := enum_in (p := p + 1) (S.put (p, x)) (show r[i]? = some s by simpa using h)
    rw [show p + 1 + i = p + (i + 1) by omega] at h1
    exact ⟨h1.1, h1.2.trans (if_neg (by show ¬ p + (i + 1) = p; omega))⟩
theorem enum_out {l : List (List UInt8)} {p i : Nat} (S : Ss) (h : i < p ∨ p + l.length ≤ i) : (S.puts (enumW p l)).f i = S.f i ∧ (S.puts (enumW p l)).e i = S.e i :=
  Ss.puts_far _ S fun q hq => by have := enumW_mem hq; omega
theorem foundP_full : ∀ (ps : List (List UInt8)) (p : Nat), (∀ x ∈ ps, 1 ≤ x.length ∧ x.length ≤ 46) → foundP p (fullS p ps) = some ps.flatten
  | [], _, _ => rfl
  | x :: r, p, h => by
    have hx := h x List.mem_cons_self
    simp only [fullS, foundP]
    rw [pieceOf_sec hx.1 hx.2, Option.bind_some, foundP_full r (p + 1) fun y hy => h y (List.mem_cons_of_mem _ hy)]
    rfl
theorem fullS_at : ∀ {ps : List (List UInt8)} {p i : Nat} {x : List UInt8}, ps[i]? = some x → (fullS p ps)[i]? = some (secL (p + i) x)
  | [], _, _, _, h => by simp at h
  | y :: r, p, 0, x, h => by
    obtain rfl : y = x := by simpa using h
    rfl
  | y :: r, p, i + 1, x, h => by
    have := fullS_at (p := p + 1) (show r[i]? = some x by simpa using h)
    rw [show p + 1 + i = p + (i + 1) by omega] at this
    simpa [fullS] using this
theorem fullS_64 {ps : List (List UInt8)} {p : Nat} : ∀ s ∈ fullS p ps, s.length = 64 := by
  induction ps generalizing p with
  | nil => simp [fullS]
  | cons x r ih =>
    intro s hs
    rcases List.mem_cons.1 hs with rfl | hs
    · exact secL_len _ _
    · exact ih s hs

/-! Append. -/
section
variable {n c : Nat} {S : Ss} {rs new : List (List UInt8)}
/-- The sectors that Append leaves. -/
def appW (c : Nat) (ps : List (List UInt8)) : List (Nat × List UInt8) := flatW (writesS c ps)
theorem appW_eq (c : Nat) (ps : List (List UInt8)) : appW c ps = enumW (2 + c) (List.replicate ps.length zeroL) ++ (enumW (2 + c) (fullS (2 + c) ps) ++ ([(1, headL 1 (c + ps.length))] ++ [(0, headL 0 (c + ps.length))])) := by
  simp [appW, flatW, writesS, enumW]
theorem writes_ok {ps : List (List UInt8)} (h : c + 2 + ps.length ≤ n) (h3 : 3 ≤ n) : stepsOk n (writesS c ps) := by
  intro x hx
  simp only [writesS, List.mem_cons, List.not_mem_nil, or_false] at hx
  rcases hx with rfl | rfl | rfl | rfl
  · refine ⟨by simp; omega, fun s hs => ?_⟩
    rw [List.eq_of_mem_replicate hs]
    exact zeroL_len
  · exact ⟨by simp only [fullS_len]; omega, fullS_64⟩
  · exact ⟨by simp; omega, fun s hs => by rw [List.mem_singleton.1 hs]; exact headL_len _ _⟩
  · exact ⟨by simp; omega, fun s hs => by rw [List.mem_singleton.1 hs]; exact headL_len _ _⟩
theorem body_new {f g : Nat → List UInt8} (h : Good n f c rs) (hs : ∀ r ∈ new, r.length ≤ mxB)
    (h1 : ∀ i, 2 ≤ i → i < 2 + c → g i = f i) (h2 : ∀ i x, (piecesL (textR new))[i]? = some x → g (2 + c + i) = secL (2 + c + i) x)
    (hc : cntM (g 0) (g 1) (n - 2) = ((c + (piecesL (textR new)).length : Nat) : Int)) : Good n g (c + (piecesL (textR new)).length) (rs ++ new) := by
  obtain ⟨T, hT, hp⟩ := h.body
  have hps := pieces_small (textR new)
  have hfl := pieces_flat (textR new)
  generalize piecesL (textR new) = ps at *
  refine ⟨h.n3, hc, T ++ ps.flatten, ?_, ?_⟩
  · have e : (listF (c + ps.length) fun i => g (2 + i)) = (listF c fun i => f (2 + i)) ++ fullS (2 + c) ps := by
      apply List.ext_getElem?
      intro i
      by_cases hi : i < c
      · rw [List.getElem?_append_left (by simp [listF]; exact hi)]
        unfold listF
        rw [List.getElem?_map, List.getElem?_range (by omega), List.getElem?_map, List.getElem?_range hi]
        simp only [Option.map_some]
        rw [h1 _ (by omega) (by omega)]
      · rw [List.getElem?_append_right (by simp [listF]; omega)]
        by_cases hi2 : i < c + ps.length
        · have hx : ps[i - c]? = some ps[i - c] := List.getElem?_eq_getElem (by omega)
          have e1 : (listF c fun i => f (2 + i)).length = c := by simp [listF]
          rw [e1, fullS_at hx]
          unfold listF
          rw [List.getElem?_map, List.getElem?_range hi2]
          have := h2 _ _ hx
          rw [show 2 + c + (i - c) = 2 + i by omega] at this
          simp only [Option.map_some]
          rw [this, show 2 + c + (i - c) = 2 + i by omega]
        · rw [List.getElem?_eq_none (by simp [listF]; omega), List.getElem?_eq_none (by simp [listF, fullS_len]; omega)]
    rw [e, foundP_app, hT]
    simp only [Option.bind_some, listF, List.length_map, List.length_range]
    rw [foundP_full ps (2 + c) hps]
    rfl
  · obtain ⟨e1, e2⟩ := parse_some hp
    rw [e1, hfl, ← textR_app]
    exact parse_text fun r hr => (List.mem_append.1 hr).elim (e2 r) (hs r)
/-- What Append's writes leave, all done. -/
theorem app_done (h : Good n S.f c rs) (hn : n ≤ 4000) (hs : ∀ r ∈ new, r.length ≤ mxB) (h8 : c + (piecesL (textR new)).length ≤ n - 2) :
    Heads (S.puts (appW c (piecesL (textR new)))).f (c + (piecesL (textR new)).length) ∧ Good n (S.puts (appW c (piecesL (textR new)))).f (c + (piecesL (textR new)).length) (rs ++ new) ∧
      ((S.puts (appW c (piecesL (textR new)))).e 0 = S.f 0 ∧ (S.puts (appW c (piecesL (textR new)))).e 1 = S.f 1 ∧ (∀ i, 2 ≤ i → i < 2 + c → (S.puts (appW c (piecesL (textR new)))).e i = S.e i) ∧
        ∀ i, 2 + c ≤ i → i < 2 + c + (piecesL (textR new)).length → (S.puts (appW c (piecesL (textR new)))).e i = zeroL) := by
  have hl := h.le
  obtain ⟨ps, hps⟩ : ∃ ps, piecesL (textR new) = ps := ⟨_, rfl⟩
  have hbn := fun g => body_new (g := g) h hs
  rw [hps] at hbn h8 ⊢
  rw [appW_eq, Ss.puts_app, Ss.puts_app, Ss.puts_app]
  obtain ⟨S1, hS1⟩ : ∃ x, S.puts (enumW (2 + c) (List.replicate ps.length zeroL)) = x := ⟨_, rfl⟩
  obtain ⟨S2, hS2⟩ : ∃ x, S1.puts (enumW (2 + c) (fullS (2 + c) ps)) = x := ⟨_, rfl⟩
  rw [hS1, hS2]
  have o1 : ∀ i, i < 2 + c → S1.f i = S.f i ∧ S1.e i = S.e i := fun i hi => by rw [← hS1]; exact enum_out S (.inl hi)
  have o2 : ∀ i, i < 2 + c → S2.f i = S.f i ∧ S2.e i = S.e i := fun i hi => by
    have := enum_out (l := fullS (2 + c) ps) (p := 2 + c) S1 (.inl hi)
    rw [hS2] at this
    exact ⟨this.1.trans (o1 i hi).1, this.2.trans (o1 i hi).2⟩
  have i2 : ∀ i x, ps[i]? = some x → S2.f (2 + c + i) = secL (2 + c + i) x ∧ S2.e (2 + c + i) = zeroL := fun i x hx => by
    have hil := (List.getElem?_eq_some_iff.1 hx).1
    have := enum_in (p := 2 + c) S1 (fullS_at (p := 2 + c) hx)
    rw [hS2] at this
    have h1 := (enum_in (p := 2 + c) (i := i) (s := zeroL) S (l := List.replicate ps.length zeroL) (by simp [hil])).1
    rw [hS1] at h1
    exact ⟨this.1, this.2.trans h1⟩
  have ef : ∀ i, ((S2.puts [(1, headL 1 (c + ps.length))]).puts [(0, headL 0 (c + ps.length))]).f i = if i = 0 then headL 0 (c + ps.length) else if i = 1 then headL 1 (c + ps.length) else S2.f i := fun i => rfl
  have ee : ∀ i, ((S2.puts [(1, headL 1 (c + ps.length))]).puts [(0, headL 0 (c + ps.length))]).e i = if i = 0 then (if i = 1 then headL 1 (c + ps.length) else S2.f i) else if i = 1 then S2.f i else S2.e i := fun i => rfl
  have hH2 : Heads ((S2.puts [(1, headL 1 (c + ps.length))]).puts [(0, headL 0 (c + ps.length))]).f (c + ps.length) := ⟨.inl rfl, .inl rfl⟩
  refine ⟨hH2, ?_, ?_, ?_, ?_, ?_⟩
  · refine hbn _ (fun i hi hi2 => ?_) (fun i x hx => ?_) ?_
    · rw [ef, if_neg (by omega), if_neg (by omega)]
      exact (o2 i (by omega)).1
    · rw [ef, if_neg (by omega), if_neg (by omega)]
      exact (i2 i x hx).1
    · unfold cntM
      rw [hH2.1.cnt h8 (by omega), hH2.2.cnt h8 (by omega)]
      exact Int.max_self _
  · rw [ee, if_pos rfl, if_neg (by decide)]
    exact (o2 0 (by omega)).1
  · rw [ee, if_neg (by decide), if_pos rfl]
    exact (o2 1 (by omega)).1
  · intro i hi hi2
    rw [ee, if_neg (by omega), if_neg (by omega)]
    exact (o2 i hi2).2
  · intro i hi hi2
    have hx : ps[i - (2 + c)]? = some ps[i - (2 + c)] := List.getElem?_eq_getElem (by omega)
    rw [ee, if_neg (by omega), if_neg (by omega)]
    have := (i2 _ _ hx).2
    rwa [show 2 + c + (i - (2 + c)) = i by omega] at this
/-- What a failure of the power leaves of Append's writes. -/
theorem app_cut {g : Nat → List UInt8} (hH : Heads S.f c) (h : Good n S.f c rs) (hn : n ≤ 4000) (hs : ∀ r ∈ new, r.length ≤ mxB) (h8 : c + (piecesL (textR new)).length ≤ n - 2) (hg : Cr n S (appW c (piecesL (textR new))) g) :
    Good n g c rs ∨ Good n g (c + (piecesL (textR new)).length) (rs ++ new) := by
  have hl := h.le
  have hn3 := h.n3
  obtain ⟨ps, hps⟩ : ∃ ps, piecesL (textR new) = ps := ⟨_, rfl⟩
  have hbn := fun g => body_new (g := g) h hs
  rw [hps] at hbn h8 hg ⊢
  rw [appW_eq] at hg
  have hc1 := hH.1.cnt (room := n - 2) (by omega) (by omega)
  have hc2 := hH.2.cnt (room := n - 2) (by omega) (by omega)
  rcases hg.app with hg | hg
  · have key : ∀ i, i < 2 + c → g i = S.f i := fun i hi => hg.far (by omega) fun p hp => by have := enumW_mem hp; omega
    refine .inl (h.of ?_ fun i _ hi => key i hi)
    rw [key 0 (by omega), key 1 (by omega)]
    exact h.cnt
  obtain ⟨S1, hS1⟩ : ∃ x, S.puts (enumW (2 + c) (List.replicate ps.length zeroL)) = x := ⟨_, rfl⟩
  rw [hS1] at hg
  have o1 : ∀ i, i < 2 + c → S1.f i = S.f i := fun i hi => by rw [← hS1]; exact (enum_out S (.inl hi)).1
  rcases hg.app with hg | hg
  · have key : ∀ i, i < 2 + c → g i = S.f i := fun i hi => (hg.far (by omega) fun p hp => by have := enumW_mem hp; omega).trans (o1 i hi)
    refine .inl (h.of ?_ fun i _ hi => key i hi)
    rw [key 0 (by omega), key 1 (by omega)]
    exact h.cnt
  obtain ⟨S2, hS2⟩ : ∃ x, S1.puts (enumW (2 + c) (fullS (2 + c) ps)) = x := ⟨_, rfl⟩
  rw [hS2] at hg
  have o2 : ∀ i, i < 2 + c → S2.f i = S.f i := fun i hi => by
    have := (enum_out (l := fullS (2 + c) ps) (p := 2 + c) S1 (.inl hi)).1
    rw [hS2] at this
    exact this.trans (o1 i hi)
  have i2 : ∀ i x, ps[i]? = some x → S2.f (2 + c + i) = secL (2 + c + i) x := fun i x hx => by
    have := enum_in (p := 2 + c) S1 (fullS_at (p := 2 + c) hx)
    rw [hS2] at this
    exact this.1
  have hlast : ∀ (v0 v1 : List UInt8), g 0 = v0 → g 1 = v1 → (∀ i, 2 ≤ i → i < n → g i = S2.f i) → (max (cntL 0 v0 (n - 2)) (cntL 1 v1 (n - 2)) = (c : Int) ∨ max (cntL 0 v0 (n - 2)) (cntL 1 v1 (n - 2)) = ((c + ps.length : Nat) : Int)) → Good n g c rs ∨ Good n g (c + ps.length) (rs ++ new) := by
    intro v0 v1 e0 e1 hr hm
    rcases hm with hm | hm
    · refine .inl (h.of ?_ fun i hi hi2 => (hr i hi (by omega)).trans (o2 i hi2))
      rw [e0, e1]
      exact hm
    · refine .inr (hbn g (fun i hi hi2 => (hr i hi (by omega)).trans (o2 i hi2)) (fun i x hx => ?_) ?_)
      · have hil := (List.getElem?_eq_some_iff.1 hx).1
        rw [hr _ (by omega) (by omega)]
        exact i2 i x hx
      · rw [e0, e1]
        exact hm
  have hn1 := (show Hd1 1 (c + ps.length) (headL 1 (c + ps.length)) from .inl rfl).cnt (room := n - 2) (by omega) (by omega)
  have hn0 := (show Hd1 0 (c + ps.length) (headL 0 (c + ps.length)) from .inl rfl).cnt (room := n - 2) (by omega) (by omega)
  rcases hg.app with hg | hg
  · have hmid : ∃ m, m ≤ 64 ∧ ∀ i, i < n → g i = tornF S2.f (1, headL 1 (c + ps.length)) m i := by
      rcases hg with hg | hg
      · exact hg
      · refine ⟨64, by omega, fun i hi => (hg i hi).trans ?_⟩
        show (if i = 1 then headL 1 (c + ps.length) else S2.f i) = if i = 1 then _ else _
        split
        · have hlh := headL_len 1 (c + ps.length)
          simp only
          rw [List.take_of_length_le (by omega), o2 i (by omega)]
          have hl2 : (S.f i).length = 64 := by
            rename_i e
            rw [e]
            rcases hH.2.old with e2 | e2
            · rw [e2]; exact headL_len _ _
            · rw [e2]; exact zeroL_len
          rw [List.drop_of_length_le (by omega), List.append_nil]
        · rfl
    obtain ⟨m, hm, hg⟩ := hmid
    have e0 : g 0 = S.f 0 := by rw [hg 0 (by omega)]; exact o2 0 (by omega)
    have e1 : g 1 = (headL 1 (c + ps.length)).take m ++ (S.f 1).drop m := by rw [hg 1 (by omega), ← o2 1 (by omega)]; rfl
    refine hlast _ _ e0 e1 (fun i hi hi2 => by rw [hg i hi2]; exact if_neg (by show ¬ i = 1; omega)) ?_
    rw [hc1]
    rcases torn_head (p := 1) (k := c + ps.length) (room := n - 2) hH.2.old (by omega) (by omega) (by omega) hm with e | e | e
    · rw [e, hc2]; left; omega
    · rw [e, hn1]; right; omega
    · rw [e]; left; omega
  · have hmid : ∃ m, m ≤ 64 ∧ ∀ i, i < n → g i = tornF (S2.puts [(1, headL 1 (c + ps.length))]).f (0, headL 0 (c + ps.length)) m i := by
      rcases hg with hg | hg
      · exact hg
      · refine ⟨64, by omega, fun i hi => (hg i hi).trans ?_⟩
        show (if i = 0 then headL 0 (c + ps.length) else (S2.puts [(1, headL 1 (c + ps.length))]).f i) = if i = 0 then _ else _
        split
        · rename_i e
          have hlh := headL_len 0 (c + ps.length)
          simp only
          have hl2 : ((S2.puts [(1, headL 1 (c + ps.length))]).f i).length = 64 := by
            have e3 : (S2.puts [(1, headL 1 (c + ps.length))]).f i = S2.f i := if_neg (by show ¬ i = 1; omega)
            rw [e3, o2 i (by omega), e]
            rcases hH.1.old with e2 | e2
            · rw [e2]; exact headL_len _ _
            · rw [e2]; exact zeroL_len
          rw [List.take_of_length_le (by omega), List.drop_of_length_le (by omega), List.append_nil]
        · rfl
    obtain ⟨m, hm, hg⟩ := hmid
    have e1 : g 1 = headL 1 (c + ps.length) := by rw [hg 1 (by omega)]; rfl
    have e0 : g 0 = (headL 0 (c + ps.length)).take m ++ (S.f 0).drop m := by
      rw [hg 0 (by omega), ← o2 0 (by omega)]
      rfl
    refine hlast _ _ e0 e1 (fun i hi hi2 => by rw [hg i hi2]; exact (if_neg (by show ¬ i = 0; omega)).trans (if_neg (by show ¬ i = 1; omega))) ?_
    rw [hn1]
    have hle := cntL_le 0 ((headL 0 (c + ps.length)).take m ++ (S.f 0).drop m) (n - 2)
    rcases torn_head (p := 0) (k := c + ps.length) (room := n - 2) hH.1.old (by omega) (by omega) (by omega) hm with e | e | e
    · rw [e, hc1]; right; omega
    · rw [e, hn0]; right; omega
    · rw [e]; right; omega
end


/-- What mending a head writes. -/
def mendL (p : Nat) (v : List UInt8) (c : Nat) : List (Nat × List (List UInt8)) :=
  if v = headL p c ∨ (c = 0 ∧ v = zeroL) then [] else (p, [zeroL]) :: if 0 < c then [(p, [headL p c])] else []
theorem Dk.mend_steps (d : Dk) (p : Nat) (v : List UInt8) (c : Nat) : d.mend p v c = d.steps (mendL p v c) := by
  unfold Dk.mend mendL
  split
  · rfl
  · by_cases h0 : (d.puts p [zeroL]).2 = 0
    · by_cases hc : 0 < c
      · rw [if_pos ⟨h0, hc⟩, if_pos hc]
        show _ = if (d.puts p [zeroL]).2 = 0 then _ else _
        rw [if_pos h0]
        show _ = if ((d.puts p [zeroL]).1.puts p [headL p c]).2 = 0 then (((d.puts p [zeroL]).1.puts p [headL p c]).1, (0 : Int)) else _
        split
        · rename_i h1
          exact Prod.ext rfl h1
        · rfl
      · rw [if_neg (fun h => hc h.2), if_neg hc]
        show _ = if (d.puts p [zeroL]).2 = 0 then ((d.puts p [zeroL]).1, (0 : Int)) else _
        rw [if_pos h0]
        exact Prod.ext rfl h0
    · rw [if_neg (fun h => h0 h.1)]
      show _ = if (d.puts p [zeroL]).2 = 0 then _ else _
      rw [if_neg h0]
/-- What mending both heads writes. -/
def mendsL (f : Nat → List UInt8) (c : Nat) : List (Nat × List (List UInt8)) := mendL 0 (f 0) c ++ mendL 1 (f 1) c
theorem Dk.mends_steps (d : Dk) (c : Nat) : d.mends c = d.steps (mendsL d.vw c) := by
  unfold Dk.mends mendsL
  rw [Dk.steps_app, Dk.mend_steps, Dk.mend_steps]
theorem mendL_ok {n p c : Nat} {v : List UInt8} (h : p < n) : stepsOk n (mendL p v c) := by
  intro x hx
  unfold mendL at hx
  split at hx
  · simp at hx
  · rcases List.mem_cons.1 hx with rfl | hx
    · exact ⟨by simp; omega, fun s hs => by rw [List.mem_singleton.1 hs]; exact zeroL_len⟩
    · split at hx
      · rw [List.mem_singleton.1 hx]
        exact ⟨by simp; omega, fun s hs => by rw [List.mem_singleton.1 hs]; exact headL_len _ _⟩
      · simp at hx
theorem mendsL_ok {n c : Nat} {f : Nat → List UInt8} (h : 3 ≤ n) : stepsOk n (mendsL f c) := fun x hx =>
  (List.mem_append.1 hx).elim (mendL_ok (by omega) x) (mendL_ok (by omega) x)
theorem mendL_nil {p c : Nat} {v : List UInt8} (h : Hd1 p c v) : mendL p v c = [] := if_pos h
theorem mendsL_nil {c : Nat} {f : Nat → List UInt8} (h : Heads f c) : mendsL f c = [] := by
  unfold mendsL
  rw [mendL_nil h.1, mendL_nil h.2]
  rfl
theorem flat_mend_mem {p c : Nat} {v : List UInt8} {x : Nat × List UInt8} (h : x ∈ flatW (mendL p v c)) : x.1 = p := by
  unfold flatW mendL at h
  split at h
  · simp at h
  · split at h <;> simp [enumW] at h
    · rcases h with rfl | rfl <;> rfl
    · rw [h]
/-- What mending one head leaves there. -/
theorem mend_cut {n p c room : Nat} {S : Ss} {g : Nat → List UInt8} (hp : p < n) (hc : c ≤ room) (hr : room < 100000000) (h : Cr n S (flatW (mendL p (S.f p) c)) g) :
    g p = S.f p ∨ cntL p (g p) room ≤ c := by
  unfold mendL at h
  split at h
  · exact .inl (h p hp)
  have hz : cntL p zeroL room ≤ c := by rw [cntL_zero]; omega
  have hn1 : ∀ {x : Int}, x = -1 → x ≤ c := fun h => by omega
  have step1 : (∃ m, m ≤ 64 ∧ ∀ i, i < n → g i = tornF S.f (p, zeroL) m i) → g p = S.f p ∨ cntL p (g p) room ≤ c := by
    rintro ⟨m, hm, hg⟩
    have e : g p = zeroL.take m ++ (S.f p).drop m := by rw [hg p hp]; exact if_pos rfl
    rcases torn_clear (p := p) (room := room) (old := S.f p) hm with h1 | h1 | h1
    · exact .inl (e.trans h1)
    · exact .inr (by rw [e, h1]; exact hz)
    · exact .inr (by rw [e]; exact hn1 h1)
  split at h
  · have e : flatW [(p, [zeroL]), (p, [headL p c])] = [(p, zeroL), (p, headL p c)] := rfl
    rw [e] at h
    rcases h with h | h | h
    · exact step1 h
    · obtain ⟨m, hm, hg⟩ := h
      have e : g p = (headL p c).take m ++ zeroL.drop m := by
        rw [hg p hp]
        simp [tornF, Ss.put]
      right
      rcases torn_head (p := p) (k := c) (c := c) (room := room) (old := zeroL) (.inr rfl) (by omega) (by omega) hr hm with h1 | h1 | h1
      · rw [e, h1]; exact hz
      · rw [e, h1, cntL_head hc (by omega)]; omega
      · rw [e]; exact hn1 h1
    · right
      have e : g p = headL p c := by
        rw [h p hp]
        simp [Ss.put]
      rw [e, cntL_head hc (by omega)]
      omega
  · have e : flatW [(p, [zeroL])] = [(p, zeroL)] := rfl
    rw [e] at h
    rcases h with h | h
    · exact step1 h
    · right
      have e : g p = zeroL := by rw [h p hp]; exact if_pos rfl
      rw [e]; exact hz
theorem hd1_iff {p c : Nat} {v : List UInt8} : (v = headL p c ∨ (c = 0 ∧ v = zeroL)) ↔ Hd1 p c v := Iff.rfl
/-- A failure of the power while the heads are mended. -/
theorem mends_cut {n c : Nat} {S : Ss} {rs : List (List UInt8)} {g : Nat → List UInt8} (h : Good n S.f c rs) (hn : n ≤ 4000) (hg : Cr n S (flatW (mendsL S.f c)) g) : Good n g c rs := by
  have hle := h.le
  have hcn := h.cnt
  unfold cntM at hcn
  unfold mendsL at hg
  rw [flatW_app] at hg
  have hb : ∀ i, 2 ≤ i → i < n → g i = S.f i := fun i hi hi2 => by
    have key : ∀ p ∈ flatW (mendL 0 (S.f 0) c) ++ flatW (mendL 1 (S.f 1) c), p.1 ≠ i := fun p hp => by
      rcases List.mem_append.1 hp with hp | hp
      · have := flat_mend_mem hp; omega
      · have := flat_mend_mem hp; omega
    exact hg.far hi2 key
  refine h.of ?_ fun i hi hi2 => hb i hi (by omega)
  have k0 := cntL_le 0 (S.f 0) (n - 2)
  have k1 := cntL_le 1 (S.f 1) (n - 2)
  unfold cntM
  by_cases h0 : Hd1 0 c (S.f 0)
  · have e0 : mendL 0 (S.f 0) c = [] := mendL_nil h0
    rw [e0] at hg
    have hg1 : Cr n S (flatW (mendL 1 (S.f 1) c)) g := hg
    have g0 : g 0 = S.f 0 := hg1.far (by omega) fun p hp => by have := flat_mend_mem hp; omega
    have c0 := h0.cnt (room := n - 2) (by omega) (by omega)
    rw [g0, c0]
    rcases mend_cut (room := n - 2) (by omega) (by omega) (by omega) hg1 with e | e
    · rw [e]; rw [c0] at hcn; exact hcn
    · omega
  · have h1 : cntL 1 (S.f 1) (n - 2) = c := by
      by_cases hq : cntL 0 (S.f 0) (n - 2) = c
      · exact absurd (hd1_of_cnt hq) h0
      · omega
    have hd1 := hd1_of_cnt h1
    have e1 : mendL 1 (S.f 1) c = [] := mendL_nil hd1
    rw [e1] at hg
    have hg0 : Cr n S (flatW (mendL 0 (S.f 0) c)) g := by
      have : flatW ([] : List (Nat × List (List UInt8))) = [] := rfl
      rwa [this, List.append_nil] at hg
    have g1 : g 1 = S.f 1 := hg0.far (by omega) fun p hp => by have := flat_mend_mem hp; omega
    rw [g1, h1]
    rcases mend_cut (room := n - 2) (by omega) (by omega) (by omega) hg0 with e | e
    · rw [e]; omega
    · omega
theorem mend_done {p c : Nat} {S : Ss} : Hd1 p c ((S.puts (flatW (mendL p (S.f p) c))).f p) ∧ ∀ i, i ≠ p → (S.puts (flatW (mendL p (S.f p) c))).f i = S.f i := by
  refine ⟨?_, fun i hi => (Ss.puts_far _ S fun q hq => by have := flat_mend_mem hq; omega).1⟩
  unfold mendL
  split
  · rename_i h
    exact h
  · rename_i h
    split
    · left
      show (if p = p then headL p c else _) = _
      rw [if_pos rfl]
    · rename_i hc
      right
      refine ⟨by omega, ?_⟩
      show (if p = p then zeroL else _) = _
      rw [if_pos rfl]
/-- Both heads mended. -/
theorem mends_done {n c : Nat} {S : Ss} {rs : List (List UInt8)} (h : Good n S.f c rs) (hn : n ≤ 4000) : Heads (S.puts (flatW (mendsL S.f c))).f c ∧ Good n (S.puts (flatW (mendsL S.f c))).f c rs := by
  have hle := h.le
  have hH : Heads (S.puts (flatW (mendsL S.f c))).f c ∧ ∀ i, 2 ≤ i → (S.puts (flatW (mendsL S.f c))).f i = S.f i := by
    unfold mendsL
    rw [flatW_app, Ss.puts_app]
    obtain ⟨h0, h1⟩ := mend_done (p := 0) (c := c) (S := S)
    obtain ⟨S1, hS1⟩ : ∃ x, S.puts (flatW (mendL 0 (S.f 0) c)) = x := ⟨_, rfl⟩
    rw [hS1] at h0 h1 ⊢
    obtain ⟨k0, k1⟩ := mend_done (p := 1) (c := c) (S := S1)
    rw [h1 1 (by decide)] at k0 k1
    refine ⟨⟨?_, k0⟩, fun i hi => (k1 i (by omega)).trans (h1 i (by omega))⟩
    rw [k1 0 (by decide)]
    exact h0
  refine ⟨hH.1, h.of ?_ fun i hi _ => hH.2 i hi⟩
  unfold cntM
  rw [hH.1.1.cnt (by omega) (by omega), hH.1.2.cnt (by omega) (by omega)]
  exact Int.max_self _

/-! The disk. -/
theorem vw_empty {d : Dk} (hq : d.q = []) : d.vw = d.sec := by
  funext i
  rw [Dk.vw_puts, hq]
  rfl
/-- The disk's sectors, the pending writes, too. -/
def Dk.vs (d : Dk) : Ss := d.ss.puts (toW d.q)
theorem Dk.vs_f (d : Dk) : d.vs.f = d.vw := by funext i; exact (Dk.vw_puts d i).symm
theorem openS_few {d : Dk} (ho : d.off = false) (h : d.n < 3) : openS d = (d, none, 1) := by unfold openS; rw [if_neg (by simp [ho]), if_pos h]
theorem openS_off {d : Dk} (ho : d.off = true) : openS d = (d, none, 25) := by unfold openS; rw [if_pos ho]
theorem openS_bad {d : Dk} (ho : d.off = false) (h : 3 ≤ d.n) (hb : ∀ c rs, ¬ Good d.n d.vw c rs) : openS d = (d, none, 26) := by
  have hr : readS d.vws = none := by
    cases hr : readS d.vws with
    | none => rfl
    | some x => exact absurd (good_of_read h hr) (hb _ _)
  unfold openS
  rw [if_neg (by simp [ho]), if_neg (by omega), hr]
theorem openS_good {d : Dk} (ho : d.off = false) {c : Nat} {rs : List (List UInt8)} (h : Good d.n d.vw c rs) :
    openS d = if (d.steps (mendsL d.vw c)).2 = 0 then ((d.steps (mendsL d.vw c)).1, some ⟨d.n, c, rs, false⟩, 0) else ((d.steps (mendsL d.vw c)).1, none, (d.steps (mendsL d.vw c)).2) := by
  have hr := read_of_good h
  unfold openS
  rw [if_neg (by simp [ho]), if_neg (by have := h.n3; omega), Dk.vws_listF, hr]
  simp only
  rw [Dk.mends_steps]
/-- A journal that is open, on a disk that is on. -/
structure JOn (d : Dk) (x : Jn) : Prop where
  ok : d.Ok
  off : d.off = false
  n : x.n = d.n
  heads : Heads d.vw x.cnt
  good : Good d.n d.vw x.cnt x.rs
  fine : x.broken = false
/-- What Open makes of a disk that is on and holds a journal. -/
theorem open_on {d : Dk} (h : d.Ok) (ho : d.off = false) {c : Nat} {rs : List (List UInt8)} (hg : Good d.n d.vw c rs) :
    (∃ d', openS d = (d', some ⟨d.n, c, rs, false⟩, 0) ∧ JOn d' ⟨d.n, c, rs, false⟩ ∧ d'.n = d.n ∧ (d.arm = none → d'.arm = none) ∧ (d.q = [] → d'.q = []) ∧ (Heads d.vw c → d' = d)) ∨
      (∃ d', openS d = (d', none, 25) ∧ d.arm ≠ none ∧ d'.Ok ∧ d'.off = true ∧ d'.q = [] ∧ d'.arm = none ∧ d'.n = d.n ∧ (d.q = [] → Good d.n d'.sec c rs)) := by
  have hn4 := h.n2
  rw [openS_good ho hg]
  rcases Dk.steps_on (mendsL d.vw c) h ho (mendsL_ok hg.n3) with ⟨h1, h2, h3, h4, h5, h6, h7⟩ | ⟨h1, h2, h3⟩
  · rw [if_pos h1]
    have hvs : Good d.n d.vs.f c rs := by rw [Dk.vs_f]; exact hg
    obtain ⟨k1, k2⟩ := mends_done hvs hn4
    rw [Dk.vs_f] at k1 k2
    have hv : ∀ i, i < d.n → (d.steps (mendsL d.vw c)).1.vw i = (d.vs.puts (flatW (mendsL d.vw c))).f i := fun i hi => by
      rw [Dk.vw_puts, (h5 i hi).1, Ss.puts_app]
      rfl
    have hn3 := hg.n3
    refine .inl ⟨_, rfl, ⟨h2, h3, h4.symm, ?_, ?_, rfl⟩, h4, h7, fun hq => h6 (.inr hq), fun hH => ?_⟩
    · exact ⟨by rw [hv 0 (by omega)]; exact k1.1, by rw [hv 1 (by omega)]; exact k1.2⟩
    · rw [h4]
      exact k2.congr hv
    · rw [mendsL_nil hH]
      rfl
  · rw [if_neg (by rw [h1]; decide), h1]
    refine .inr ⟨_, rfl, h2, h3.ok, h3.off, h3.q, h3.arm, h3.nn, fun hq => ?_⟩
    have hcr := h3.cr
    rw [hq] at hcr
    have hv := vw_empty hq
    rw [hv] at hcr hg ⊢
    exact mends_cut (S := d.ss) hg hn4 hcr
/-- What Append makes of a journal. -/
theorem append_on {d : Dk} {x : Jn} (h : JOn d x) (new : List (List UInt8)) :
    (∃ r ∈ new, 20000 < r.length) ∧ appendS d x new = (d, x, 2) ∨ (∀ r ∈ new, r.length ≤ 20000) ∧ (
      x.n < x.cnt + 2 + (piecesL (textR new)).length ∧ appendS d x new = (d, x, 27) ∨ x.cnt + 2 + (piecesL (textR new)).length ≤ x.n ∧ (
        new = [] ∧ appendS d x new = (d, x, 0) ∨ new ≠ [] ∧ (
          (∃ d', appendS d x new = (d', ⟨x.n, x.cnt + (piecesL (textR new)).length, x.rs ++ new, false⟩, 0) ∧ JOn d' ⟨x.n, x.cnt + (piecesL (textR new)).length, x.rs ++ new, false⟩ ∧ d'.n = d.n ∧ (d.arm = none → d'.arm = none) ∧ d'.q = [] ∧
            Alike d.n d'.ss (d.vs.puts (appW x.cnt (piecesL (textR new))))) ∨
          (∃ d', appendS d x new = (d', ⟨x.n, x.cnt, x.rs, true⟩, 25) ∧ d.arm ≠ none ∧ d'.Ok ∧ d'.off = true ∧ d'.q = [] ∧ d'.arm = none ∧ d'.n = d.n ∧ (d.q = [] → Good d.n d'.sec x.cnt x.rs ∨ Good d.n d'.sec (x.cnt + (piecesL (textR new)).length) (x.rs ++ new)))))) := by
  obtain ⟨n, cnt, rs, br⟩ := x
  obtain ⟨h, ho, hn, hH, hg, hb⟩ := h
  simp only at hn hH hg hb ⊢
  subst hn hb
  have hn4 := h.n2
  have hle := hg.le
  have hn3 := hg.n3
  by_cases hlong : ∃ r ∈ new, 20000 < r.length
  · refine .inl ⟨hlong, ?_⟩
    unfold appendS
    rw [if_neg (by simp), if_pos (by simpa using hlong)]
  have hsm : ∀ r ∈ new, r.length ≤ 20000 := fun r hr => by
    rcases Nat.lt_or_ge 20000 r.length with h1 | h1
    · exact absurd ⟨r, hr, h1⟩ hlong
    · exact h1
  refine .inr ⟨hsm, ?_⟩
  have ha : (new.any fun r => decide (20000 < r.length)) = false := by simpa using hsm
  by_cases hroom : d.n < cnt + 2 + (piecesL (textR new)).length
  · refine .inl ⟨hroom, ?_⟩
    unfold appendS
    rw [if_neg (by simp), ha, if_neg (by decide), if_pos (by simp only; omega)]
  refine .inr ⟨by omega, ?_⟩
  by_cases hnil : new = []
  · refine .inl ⟨hnil, ?_⟩
    unfold appendS
    rw [if_neg (by simp), ha, if_neg (by decide), if_neg (by simp only; omega), if_pos hnil]
  refine .inr ⟨hnil, ?_⟩
  have e : appendS d ⟨d.n, cnt, rs, false⟩ new = if (d.steps (writesS cnt (piecesL (textR new)))).2 = 0 then
      ((d.steps (writesS cnt (piecesL (textR new)))).1, ⟨d.n, cnt + (piecesL (textR new)).length, rs ++ new, false⟩, 0)
      else ((d.steps (writesS cnt (piecesL (textR new)))).1, ⟨d.n, cnt, rs, true⟩, (d.steps (writesS cnt (piecesL (textR new)))).2) := by
    unfold appendS
    rw [if_neg (by simp), ha, if_neg (by decide), if_neg (by simp only; omega), if_neg hnil]
  rw [e]
  rcases Dk.steps_on (writesS cnt (piecesL (textR new))) h ho (writes_ok (by omega) hn3) with ⟨h1, h2, h3, h4, h5, h6, h7⟩ | ⟨h1, h2, h3⟩
  · rw [if_pos h1]
    have hq := h6 (.inl (by unfold writesS; simp))
    have hvs : Good d.n d.vs.f cnt rs := by rw [Dk.vs_f]; exact hg
    obtain ⟨k1, k2, _⟩ := app_done (S := d.vs) hvs hn4 hsm (by omega)
    rw [hq] at h5
    have h5' : Alike d.n (d.steps (writesS cnt (piecesL (textR new)))).1.ss (d.vs.puts (appW cnt (piecesL (textR new)))) := by
      have e2 : d.vs.puts (appW cnt (piecesL (textR new))) = d.ss.puts (toW d.q ++ flatW (writesS cnt (piecesL (textR new)))) := by rw [Ss.puts_app]; rfl
      rw [e2]
      exact h5
    have hv : ∀ i, i < d.n → (d.steps (writesS cnt (piecesL (textR new)))).1.vw i = (d.vs.puts (appW cnt (piecesL (textR new)))).f i := fun i hi => by
      rw [vw_empty hq]
      exact (h5' i hi).1
    refine .inl ⟨_, rfl, ⟨h2, h3, h4.symm, ?_, ?_, rfl⟩, h4, h7, hq, h5'⟩
    · exact ⟨by rw [hv 0 (by omega)]; exact k1.1, by rw [hv 1 (by omega)]; exact k1.2⟩
    · rw [h4]
      exact k2.congr hv
  · rw [if_neg (by rw [h1]; decide), h1]
    refine .inr ⟨_, rfl, h2, h3.ok, h3.off, h3.q, h3.arm, h3.nn, fun hq => ?_⟩
    have hcr := h3.cr
    rw [hq] at hcr
    have hv := vw_empty hq
    rw [hv] at hH hg
    exact app_cut (S := d.ss) hH hg hn4 hsm (by omega) hcr


theorem good_zero {n : Nat} {f : Nat → List UInt8} (hn : 3 ≤ n) (h : ∀ i, i < n → f i = zeroL) : Heads f 0 ∧ Good n f 0 [] := by
  have hH : Heads f 0 := ⟨.inr ⟨rfl, h 0 (by omega)⟩, .inr ⟨rfl, h 1 (by omega)⟩⟩
  refine ⟨hH, hn, ?_, [], rfl, parseR_nil⟩
  unfold cntM
  rw [hH.1.cnt (by omega) (by omega), hH.2.cnt (by omega) (by omega)]
  rfl
theorem new_sec {n i : Nat} (hi : i < n) : (Dk.new n).sec i = zeroL ∧ (Dk.new n).sel i = zeroL := by
  have key : ((List.replicate (64 * n) (0 : UInt8)).drop (64 * i)).take 64 = zeroL := by
    rw [List.drop_replicate, List.take_replicate]
    unfold zeroL
    congr 1
    omega
  exact ⟨key, key⟩
theorem new_ok {n : Nat} (h1 : 1 ≤ n) (h2 : n ≤ 4000) : (Dk.new n).Ok := ⟨h1, h2, by simp [Dk.new], by simp [Dk.new], by simp [Dk.new], by simp [Dk.new]⟩
theorem new_on {n : Nat} (h : 3 ≤ n) (h2 : n ≤ 4000) : JOn (Dk.new n) ⟨n, 0, [], false⟩ ∧ openS (Dk.new n) = (Dk.new n, some ⟨n, 0, [], false⟩, 0) := by
  have hv : (Dk.new n).vw = (Dk.new n).sec := vw_empty rfl
  obtain ⟨k1, k2⟩ := good_zero (f := (Dk.new n).vw) h (fun i hi => by rw [hv]; exact (new_sec hi).1)
  refine ⟨⟨new_ok (by omega) h2, rfl, rfl, k1, k2, rfl⟩, ?_⟩
  rw [openS_good rfl k2, mendsL_nil k1]
  rfl
theorem new_few {n : Nat} (h : n < 3) : openS (Dk.new n) = (Dk.new n, none, 1) := openS_few rfl h

/-- What each sector contained before: an older head, or zero bytes. -/
structure El (d : Dk) (c : Nat) : Prop where
  head : ∀ p, p < 2 → d.sel p = zeroL ∨ ∃ k, k ≤ c ∧ d.sel p = headL p k
  piece : ∀ i, 2 ≤ i → i < 2 + c → d.sel i = zeroL
theorem El.new {n : Nat} (h : 3 ≤ n) : El (Dk.new n) 0 := ⟨fun p hp => .inl (new_sec (by omega)).2, fun i h1 h2 => by omega⟩
theorem El.append {d d' : Dk} {x : Jn} {new : List (List UInt8)} (h : El d x.cnt) (hj : JOn d x) (hq : d.q = []) (hs : ∀ r ∈ new, r.length ≤ 20000) (hn : x.cnt + 2 + (piecesL (textR new)).length ≤ x.n)
    (ha : Alike d.n d'.ss (d.vs.puts (appW x.cnt (piecesL (textR new))))) : El d' (x.cnt + (piecesL (textR new)).length) := by
  have hn4 := hj.ok.n2
  have hle := hj.good.le
  have hxn := hj.n
  have hvs : Good d.n d.vs.f x.cnt x.rs := by rw [Dk.vs_f]; exact hj.good
  obtain ⟨_, _, e0, e1, e2, e3⟩ := app_done (S := d.vs) hvs hn4 hs (by omega)
  have hH := hj.heads
  rw [← Dk.vs_f] at hH
  have hve : d.vs.e = d.sel := by unfold Dk.vs; rw [hq]; rfl
  rw [hve] at e2
  refine ⟨fun p hp => ?_, fun i h1 h2 => ?_⟩
  · have e : d'.sel p = d.vs.f p := by
      rcases (show p = 0 ∨ p = 1 by omega) with rfl | rfl
      · exact (ha 0 (by omega)).2.trans e0
      · exact (ha 1 (by omega)).2.trans e1
    rw [e]
    have hp2 : Hd1 p x.cnt (d.vs.f p) := by
      rcases (show p = 0 ∨ p = 1 by omega) with rfl | rfl
      · exact hH.1
      · exact hH.2
    rcases hp2 with h | ⟨_, h⟩
    · exact .inr ⟨x.cnt, by omega, h⟩
    · exact .inl h
  · have e : d'.sel i = (d.vs.puts (appW x.cnt (piecesL (textR new)))).e i := (ha i (by omega)).2
    rw [e]
    by_cases hi : i < 2 + x.cnt
    · rw [e2 i h1 hi]
      exact h.piece i h1 hi
    · exact e3 i (by omega) (by omega)

/-- One head is lost. -/
theorem lose_head {n c p : Nat} {f g : Nat → List UInt8} {rs : List (List UInt8)} (h : Good n f c rs) (hn : n ≤ 4000) (hH : Heads f c) (hp : p < 2) (hc : cntL p (g p) (n - 2) ≤ c) (hf : ∀ i, i < n → i ≠ p → g i = f i) : Good n g c rs := by
  have hle := h.le
  refine h.of ?_ fun i hi hi2 => hf i (by omega) (by omega)
  have c0 := hH.1.cnt (room := n - 2) (by omega) (by omega)
  have c1 := hH.2.cnt (room := n - 2) (by omega) (by omega)
  unfold cntM
  rcases (show p = 0 ∨ p = 1 by omega) with rfl | rfl
  · rw [hf 1 (by omega) (by decide), c1]; omega
  · rw [hf 0 (by omega) (by decide), c0]; omega
/-- One piece is lost. -/
theorem lose_piece {n c p : Nat} {f g : Nat → List UInt8} {rs : List (List UInt8)} (h : Good n f c rs) (hp : 2 ≤ p) (hp2 : p < 2 + c) (hc : pieceOf p (g p) = none) (hf : ∀ i, i < n → i ≠ p → g i = f i) : ∀ c' rs', ¬ Good n g c' rs' := by
  intro c' rs' hg
  have hle := h.le
  have h1 := hg.cnt
  rw [hf 0 (by omega) (by omega), hf 1 (by omega) (by omega), h.cnt] at h1
  obtain rfl : c = c' := by omega
  obtain ⟨T, hT, _⟩ := hg.body
  have hx : (listF c fun i => g (2 + i))[p - 2]? = some (g p) := by
    unfold listF
    rw [List.getElem?_map, List.getElem?_range (by omega)]
    simp only [Option.map_some]
    rw [show 2 + (p - 2) = p by omega]
  rw [foundP_bad (p := 2) hx (by rw [show 2 + (p - 2) = p by omega]; exact hc)] at hT
  cases hT
/-- A byte of a sector rots. -/
theorem rot_sec {d : Dk} (h : d.Ok) {s k m : Nat} (hs : s < d.n) (hk : k < 64) (hm : 0 < m) (hm2 : m < 256) :
    (d.rot s k m).Ok ∧ (d.rot s k m).n = d.n ∧ (d.rot s k m).q = d.q ∧ (d.rot s k m).off = d.off ∧ (d.rot s k m).arm = d.arm ∧ (∃ b x, (d.sec s)[k]? = some x ∧ b ≠ x ∧ (d.rot s k m).sec s = (d.sec s).set k b) ∧ ∀ i, i < d.n → i ≠ s → (d.rot s k m).sec i = d.sec i := by
  have hh : d.has (s : Int) = true := by simp [Dk.has]; omega
  have e : d.rot s k m = { d with st := d.st.set (64 * s + k) ((d.st.getD (64 * s + k) 0) ^^^ UInt8.ofNat m) } := by
    unfold Dk.rot
    rw [if_pos ⟨hh, by omega, by omega, by omega, by omega⟩]
    simp
  rw [e]
  have hl : 64 * s + k < d.st.length := by rw [h.st]; omega
  have hget : (d.sec s)[k]? = some (d.st.getD (64 * s + k) 0) := by
    unfold Dk.sec
    rw [List.getElem?_take_of_lt hk, List.getElem?_drop, List.getElem?_eq_getElem hl, List.getD_eq_getElem?_getD, List.getElem?_eq_getElem hl]
    rfl
  generalize d.st.getD (64 * s + k) 0 = x at *
  have hbx : x ^^^ UInt8.ofNat m ≠ x := fun hc => by
    have h1 : x ^^^ (x ^^^ UInt8.ofNat m) = x ^^^ x := by rw [hc]
    rw [← UInt8.xor_assoc, UInt8.xor_self, UInt8.zero_xor] at h1
    have h2 := congrArg UInt8.toNat h1
    rw [UInt8.toNat_ofNat'] at h2
    simp at h2
    omega
  generalize x ^^^ UInt8.ofNat m = b at *
  refine ⟨⟨h.n1, h.n2, by simp [h.st], h.el, h.q, h.arm⟩, rfl, rfl, rfl, rfl, ⟨b, x, hget, hbx, ?_⟩, fun i hi hne => ?_⟩
  · apply List.ext_getElem?
    intro j
    unfold Dk.sec
    simp only
    by_cases hj : j < 64
    · rw [List.getElem?_take_of_lt hj, List.getElem?_drop]
      by_cases hjk : k = j
      · subst hjk
        rw [List.getElem?_set_self hl, List.getElem?_set_self (by rw [List.length_take, List.length_drop, h.st]; omega)]
      · rw [List.getElem?_set_ne (by omega), List.getElem?_set_ne hjk, List.getElem?_take_of_lt hj, List.getElem?_drop]
    · rw [List.getElem?_eq_none (by simp; omega), List.getElem?_eq_none (by simp; omega)]
  · apply List.ext_getElem?
    intro j
    unfold Dk.sec
    simp only
    by_cases hj : j < 64
    · rw [List.getElem?_take_of_lt hj, List.getElem?_drop, List.getElem?_take_of_lt hj, List.getElem?_drop, List.getElem?_set_ne (by omega)]
    · rw [List.getElem?_eq_none (by simp; omega), List.getElem?_eq_none (by simp; omega)]
/-- A sector becomes stale. -/
theorem stale_sec {d : Dk} (h : d.Ok) {s : Nat} (hs : s < d.n) :
    (d.stale s).Ok ∧ (d.stale s).n = d.n ∧ (d.stale s).q = d.q ∧ (d.stale s).off = d.off ∧ (d.stale s).arm = d.arm ∧ (d.stale s).sec s = d.sel s ∧ ∀ i, i < d.n → i ≠ s → (d.stale s).sec i = d.sec i := by
  have hh : d.has (s : Int) = true := by simp [Dk.has]; omega
  have e : d.stale s = { d with st := splice d.st (64 * s) (d.sel s) } := by
    unfold Dk.stale
    rw [if_pos hh]
    simp [Dk.sel]
  rw [e]
  have hl := Dk.sel_len h hs
  refine ⟨⟨h.n1, h.n2, ?_, h.el, h.q, h.arm⟩, rfl, rfl, rfl, rfl, ?_, fun i hi hne => ?_⟩
  · show (splice _ _ _).length = _
    rw [length_splice _ _ _ (by rw [h.st, hl]; omega)]
    exact h.st
  · show ((splice d.st (64 * s) (d.sel s)).drop (64 * s)).take 64 = _
    rw [splice_same (by omega) (by rw [h.st]; omega), List.drop_of_length_le (by rw [List.length_take, List.length_drop, h.st]; omega), List.append_nil]
  · show ((splice d.st (64 * s) (d.sel s)).drop (64 * i)).take 64 = _
    exact splice_far (by omega) hne (by rw [h.st]; omega)
/-- Behind a rotten byte or a stale sector Open finds the records, or damage. -/
def Found (d : Dk) (c : Nat) (rs : List (List UInt8)) : Prop := (∃ d', openS d = (d', some ⟨d.n, c, rs, false⟩, 0) ∧ JOn d' ⟨d.n, c, rs, false⟩ ∧ d'.arm = none ∧ d'.q = [] ∧ d'.n = d.n) ∨ openS d = (d, none, 26)
theorem found_good {d : Dk} {c : Nat} {rs : List (List UInt8)} (h : d.Ok) (ho : d.off = false) (ha : d.arm = none) (hq : d.q = []) (hg : Good d.n d.vw c rs) :
    ∃ d', openS d = (d', some ⟨d.n, c, rs, false⟩, 0) ∧ JOn d' ⟨d.n, c, rs, false⟩ ∧ d'.arm = none ∧ d'.q = [] ∧ d'.n = d.n := by
  rcases open_on h ho hg with ⟨d', h1, h2, h3, h4, h5, _⟩ | ⟨d', _, h2, _⟩
  · exact ⟨d', h1, h2, h4 ha, h5 hq, h3⟩
  · exact absurd ha h2
theorem rot_rhead {d : Dk} {x : Jn} (h : JOn d x) (hq : d.q = []) {s k m : Nat} (hs : s < 2) (hk : k < 64) (hm : 0 < m) (hm2 : m < 256) : Good (d.rot s k m).n (d.rot s k m).vw x.cnt x.rs := by
  have hle := h.good.le
  obtain ⟨k1, k2, k3, k4, k5, ⟨b, y, k6, k7, k8⟩, k9⟩ := rot_sec h.ok (show s < d.n by omega) hk hm hm2
  have hg := h.good
  have hH := h.heads
  rw [vw_empty hq] at hg hH
  rw [vw_empty (k3.trans hq), k2]
  refine lose_head hg h.ok.n2 hH hs ?_ (fun i hi hne => k9 i hi hne)
  have hp : Hd1 s x.cnt (d.sec s) := by
    rcases (show s = 0 ∨ s = 1 by omega) with rfl | rfl
    · exact hH.1
    · exact hH.2
  rw [k8, rot_head hp hk k6 k7]
  omega
theorem body_at {n c : Nat} {f : Nat → List UInt8} {rs : List (List UInt8)} (h : Good n f c rs) {s : Nat} (h1 : 2 ≤ s) (h2 : s < 2 + c) : ∃ t, f s = secL s t := by
  obtain ⟨T, hT, _⟩ := h.body
  have hx : (listF c fun i => f (2 + i))[s - 2]? = some (f s) := by
    unfold listF
    rw [List.getElem?_map, List.getElem?_range (by omega)]
    simp only [Option.map_some]
    rw [show 2 + (s - 2) = s by omega]
  cases hp : pieceOf s (f s) with
  | none =>
    rw [foundP_bad (p := 2) hx (by rw [show 2 + (s - 2) = s by omega]; exact hp)] at hT
    cases hT
  | some t => exact ⟨t, (pieceOf_some hp).2.2⟩
theorem rot_rpiece {d : Dk} {x : Jn} (h : JOn d x) (hq : d.q = []) {s k m : Nat} (hs : 2 ≤ s) (hs2 : s < 2 + x.cnt) (hk : k < 64) (hm : 0 < m) (hm2 : m < 256) : ∀ c rs, ¬ Good (d.rot s k m).n (d.rot s k m).vw c rs := by
  have hle := h.good.le
  obtain ⟨k1, k2, k3, k4, k5, ⟨b, y, k6, k7, k8⟩, k9⟩ := rot_sec h.ok (show s < d.n by omega) hk hm hm2
  have hg := h.good
  rw [vw_empty hq] at hg
  rw [vw_empty (k3.trans hq), k2]
  obtain ⟨t, ht⟩ := body_at hg hs hs2
  refine lose_piece hg hs hs2 ?_ (fun i hi hne => k9 i hi hne)
  rw [k8, ht]
  rw [ht] at k6
  exact rot_piece hk k6 k7
theorem rot_found {d : Dk} {x : Jn} (h : JOn d x) (hq : d.q = []) (ha : d.arm = none) {s k m : Nat} (hs : s < d.n) (hk : k < 64) (hm2 : m < 256) : Found (d.rot s k m) x.cnt x.rs := by
  rcases Nat.eq_zero_or_pos m with rfl | hm
  · have e : d.rot s k (0 : Nat) = d := by unfold Dk.rot; rw [if_neg (fun hc => absurd hc.2.2.2.1 (by decide))]
    rw [e]
    exact .inl (found_good h.ok h.off ha hq h.good)
  obtain ⟨k1, k2, k3, k4, k5, _, k9⟩ := rot_sec h.ok hs hk hm hm2
  have ho : (d.rot s k m).off = false := k4.trans h.off
  have hn3 := h.good.n3
  rcases Nat.lt_or_ge s 2 with h2 | h2
  · exact .inl (found_good k1 ho (k5.trans ha) (k3.trans hq) (rot_rhead h hq h2 hk hm hm2))
  · rcases Nat.lt_or_ge s (2 + x.cnt) with h3 | h3
    · exact .inr (openS_bad ho (by omega) (rot_rpiece h hq h2 h3 hk hm hm2))
    · refine .inl (found_good k1 ho (k5.trans ha) (k3.trans hq) ?_)
      have hle := h.good.le
      have hg := h.good
      rw [vw_empty hq] at hg
      rw [vw_empty (k3.trans hq), k2]
      refine hg.of ?_ fun i hi hi2 => k9 i (by omega) (by omega)
      rw [k9 0 (by omega) (by omega), k9 1 (by omega) (by omega)]
      exact hg.cnt
theorem stale_found {d : Dk} {x : Jn} (h : JOn d x) (hq : d.q = []) (ha : d.arm = none) (he : El d x.cnt) {s : Nat} (hs : s < d.n) : Found (d.stale s) x.cnt x.rs := by
  obtain ⟨k1, k2, k3, k4, k5, k6, k9⟩ := stale_sec h.ok hs
  have ho : (d.stale s).off = false := k4.trans h.off
  have hn3 := h.good.n3
  have hle := h.good.le
  have hg := h.good
  have hH := h.heads
  have hn4 := h.ok.n2
  rw [vw_empty hq] at hg hH
  rcases Nat.lt_or_ge s 2 with h2 | h2
  · refine .inl (found_good k1 ho (k5.trans ha) (k3.trans hq) ?_)
    rw [vw_empty (k3.trans hq), k2]
    refine lose_head hg h.ok.n2 hH h2 ?_ (fun i hi hne => k9 i hi hne)
    rw [k6]
    rcases he.head s h2 with e | ⟨k, hk, e⟩
    · rw [e, cntL_zero]; omega
    · rw [e, cntL_head (by omega) (by omega)]; omega
  · rcases Nat.lt_or_ge s (2 + x.cnt) with h3 | h3
    · refine .inr (openS_bad ho (by omega) ?_)
      rw [vw_empty (k3.trans hq), k2]
      refine lose_piece hg h2 h3 ?_ (fun i hi hne => k9 i hi hne)
      rw [k6, he.piece s h2 h3]
      exact pieceOf_zero s
    · refine .inl (found_good k1 ho (k5.trans ha) (k3.trans hq) ?_)
      rw [vw_empty (k3.trans hq), k2]
      refine hg.of ?_ fun i hi hi2 => k9 i (by omega) (by omega)
      rw [k9 0 (by omega) (by omega), k9 1 (by omega) (by omega)]
      exact hg.cnt


theorem pieces_one {t : List UInt8} (h0 : t ≠ []) (h : t.length ≤ 46) : piecesL t = [t] := by
  rw [pieces_cons h0, List.take_of_length_le h, List.drop_of_length_le h, pieces_nil]
theorem flat_le : ∀ (ps : List (List UInt8)), (∀ p ∈ ps, p.length ≤ 46) → ps.flatten.length ≤ 46 * ps.length
  | [], _ => by simp
  | p :: r, h => by
    have h1 := flat_le r fun q hq => h q (List.mem_cons_of_mem _ hq)
    have h2 := h p List.mem_cons_self
    simp only [List.flatten_cons, List.length_append, List.length_cons]
    omega
theorem pieces_many (t : List UInt8) : t.length ≤ 46 * (piecesL t).length := by
  have h := flat_le (piecesL t) fun p hp => (pieces_small t p hp).2
  rwa [pieces_flat] at h
theorem flat_ge : ∀ (ps : List (List UInt8)), (∀ p ∈ ps, 1 ≤ p.length) → ps.length ≤ ps.flatten.length
  | [], _ => by simp
  | p :: r, h => by
    have h1 := flat_ge r fun q hq => h q (List.mem_cons_of_mem _ hq)
    have h2 := h p List.mem_cons_self
    simp only [List.flatten_cons, List.length_append, List.length_cons]
    omega
theorem pieces_le (t : List UInt8) : (piecesL t).length ≤ t.length := by
  have h := flat_ge (piecesL t) fun p hp => (pieces_small t p hp).1
  rwa [pieces_flat] at h
theorem text_one {r : List UInt8} (h : r.length < 10) : textR [r] = c8 r.length :: 58 :: r := by
  unfold textR recL
  rw [List.map_cons, List.map_nil, itoa_nat, dec_ten h]
  simp
theorem text_one_len {r : List UInt8} : r.length ≤ (textR [r]).length := by
  unfold textR recL
  simp
  omega
def abL : List (List UInt8) := [[97], [98, 99]]
theorem ab_pieces : (piecesL (textR abL)).length = 1 := by
  have e : textR abL = (c8 1 :: 58 :: [97]) ++ (c8 2 :: 58 :: [98, 99]) := by
    show textR ([[97]] ++ [[98, 99]]) = _
    rw [textR_app, text_one (by decide), text_one (by decide)]
    rfl
  rw [pieces_one (by rw [e]; simp) (by rw [e]; simp)]
  rfl
/-- A failure of the power at rest, and a start. -/
theorem fail_start {d : Dk} {x : Jn} (h : JOn d x) (hq : d.q = []) (y z : Int) : ∃ d', (d.fail y z).start = d' ∧ JOn d' x ∧ d'.arm = none ∧ d'.q = [] ∧ d'.n = d.n ∧ (∀ c, El d c → El d' c) ∧ d'.vw = d.vw := by
  have e : (d.fail y z).start = { d with q := [], off := false, arm := none } := by
    unfold Dk.fail
    rw [if_neg (by simp [h.off]), hq]
    simp [Dk.settle, Dk.torn, Dk.start]
  rw [e]
  have hv : ({ d with q := [], off := false, arm := none } : Dk).vw = d.vw := by
    rw [vw_empty (d := { d with q := [], off := false, arm := none }) rfl, vw_empty hq]
    rfl
  refine ⟨_, rfl, ⟨⟨h.ok.n1, h.ok.n2, h.ok.st, h.ok.el, by simp, by simp⟩, rfl, h.n, ?_, ?_, h.fine⟩, rfl, rfl, rfl, fun c he => ⟨he.head, he.piece⟩, hv⟩
  · rw [hv]; exact h.heads
  · rw [hv]; exact h.good
/-- A disk that has been turned off, and is started. -/
theorem dead_start {d : Dk} (h : d.Ok) (ho : d.off = true) (hq : d.q = []) (y z : Int) : (d.fail y z).start = { d with off := false, arm := none } ∧ (d.fail y z).start.Ok ∧ (d.fail y z).start.vw = d.sec := by
  have e : (d.fail y z).start = { d with off := false, arm := none } := by
    unfold Dk.fail
    rw [if_pos ho]
    rfl
  refine ⟨e, ?_, ?_⟩
  · rw [e]; exact ⟨h.n1, h.n2, h.st, h.el, h.q, by simp⟩
  · rw [e]
    exact vw_empty (d := { d with off := false, arm := none }) hq
def x6 (c : Nat) (rs : List (List UInt8)) : Jn := ⟨6, c, rs, false⟩
theorem hd_open : JOn (Dk.new 6) (x6 0 []) ∧ openS (Dk.new 6) = (Dk.new 6, some (x6 0 []), 0) := new_on (by decide) (by decide)
theorem hd_app1 : ∃ d1, appendS (Dk.new 6) (x6 0 []) abL = (d1, x6 1 abL, 0) ∧ JOn d1 (x6 1 abL) ∧ d1.n = 6 ∧ d1.arm = none ∧ d1.q = [] := by
  have hp := ab_pieces
  rcases append_on hd_open.1 abL with ⟨⟨r, hr, h1⟩, _⟩ | ⟨_, ⟨h1, _⟩ | ⟨_, ⟨h1, _⟩ | ⟨_, ⟨d', h1, h2, h3, h4, h5, _⟩ | ⟨d', _, h2, _⟩⟩⟩⟩
  · exfalso
    unfold abL at hr
    simp only [List.mem_cons, List.not_mem_nil, or_false] at hr
    rcases hr with rfl | rfl <;> simp at h1
  · rw [hp] at h1
    exact absurd h1 (by decide)
  · exact absurd h1 (by decide)
  · rw [hp] at h1 h2
    exact ⟨d', h1, h2, h3, h4 rfl, h5⟩
  · exact absurd rfl h2
theorem hd_app2 {d1 : Dk} (h : JOn d1 (x6 1 abL)) : appendS d1 (x6 1 abL) [List.replicate 200 0] = (d1, x6 1 abL, 27) := by
  have hp := pieces_many (textR [List.replicate 200 0])
  have hl := text_one_len (r := List.replicate 200 0)
  rw [List.length_replicate] at hl
  have h6 : ∀ c rs, (x6 c rs).n = 6 ∧ (x6 c rs).cnt = c := fun _ _ => ⟨rfl, rfl⟩
  rcases append_on h [List.replicate 200 0] with ⟨⟨r, hr, h1⟩, _⟩ | ⟨_, ⟨_, h1⟩ | ⟨h1, _⟩⟩
  · exfalso
    rw [List.mem_singleton.1 hr, List.length_replicate] at h1
    omega
  · exact h1
  · rw [(h6 _ _).1, (h6 _ _).2] at h1
    omega
theorem hd_app3 {d1 : Dk} (h : JOn d1 (x6 1 abL)) : appendS d1 (x6 1 abL) [List.replicate 20001 0] = (d1, x6 1 abL, 2) := by
  rcases append_on h [List.replicate 20001 0] with ⟨_, h1⟩ | ⟨h1, _⟩
  · exact h1
  · have := h1 _ List.mem_cons_self
    rw [List.length_replicate] at this
    omega
/-- All that the fixed examples say. -/
theorem hd_all : ∃ d1 d2 d4 d5 d6, appendS (Dk.new 6) (x6 0 []) abL = (d1, x6 1 abL, 0) ∧ appendS d1 (x6 1 abL) [List.replicate 200 0] = (d1, x6 1 abL, 27) ∧ appendS d1 (x6 1 abL) [List.replicate 20001 0] = (d1, x6 1 abL, 2) ∧
    (d1.fail 0 0).start = d2 ∧ openS d2 = (d2, some (x6 1 abL), 0) ∧ d2.rot 0 5 1 = d4 ∧ openS d4 = (d5, some (x6 1 abL), 0) ∧ d5.rot 2 40 1 = d6 ∧ openS d6 = (d6, none, 26) ∧ d1.q = [] ∧ d2.q = [] ∧ d4.q = [] ∧ d5.q = [] ∧ d6.q = [] := by
  obtain ⟨d1, h1, h2, h3, h4, h5⟩ := hd_app1
  obtain ⟨d2, k1, k2, k3, k4, k5, _, _⟩ := fail_start h2 h5 0 0
  have e2 : openS d2 = (d2, some (x6 1 abL), 0) := by
    rcases open_on k2.ok k2.off k2.good with ⟨d', h1, _, _, _, _, h6⟩ | ⟨_, _, h1, _⟩
    · rw [h6 k2.heads] at h1
      rw [h1, k5, h3]
      rfl
    · exact absurd k3 h1
  have hn2 : d2.n = 6 := k5.trans h3
  have g4 := rot_rhead k2 k4 (s := 0) (k := 5) (m := 1) (by decide) (by decide) (by decide) (by decide)
  obtain ⟨m1, m2, m3, m4, m5, _, _⟩ := rot_sec k2.ok (s := 0) (k := 5) (m := 1) (by omega) (by decide) (by decide) (by decide)
  obtain ⟨d5, n1, n2, n3, n4, n5⟩ := found_good m1 (m4.trans k2.off) (m5.trans k3) (m3.trans k4) g4
  have hx5 : (⟨(d2.rot (0 : Nat) (5 : Nat) (1 : Nat)).n, 1, abL, false⟩ : Jn) = x6 1 abL := by rw [m2, hn2]; rfl
  have hx5' : (⟨(d2.rot (0 : Nat) (5 : Nat) (1 : Nat)).n, (x6 1 abL).cnt, (x6 1 abL).rs, false⟩ : Jn) = x6 1 abL := hx5
  rw [hx5'] at n1 n2
  have b6 := rot_rpiece n2 n4 (s := 2) (k := 40) (m := 1) (by decide) (by decide) (by decide) (by decide) (by decide)
  obtain ⟨p1, p2, p3, p4, p5, _, _⟩ := rot_sec n2.ok (s := 2) (k := 40) (m := 1) (by rw [n5, m2, hn2]; decide) (by decide) (by decide) (by decide)
  have e6 := openS_bad (p4.trans n2.off) (by rw [p2, n5, m2, hn2]; decide) b6
  exact ⟨d1, d2, _, d5, _, h1, hd_app2 h2, hd_app3 h2, k1, e2, rfl, n1, rfl, e6, h5, k4, m3.trans k4, n4, p3.trans n4⟩
end Go.Proofs.YtieicjjmkedgaaaGreatDoor
