/- A disk as sectors: what writes, synchronizations and a failure of the power leave. No program in sight. -/
import Derived.Test.YtfjejfgdnjnflaaGreatDoorKa
namespace Go.Proofs.YtfjejfgdnjnflaaGreatDoor

theorem splice_far {α : Type} {L t : List α} {i j : Nat} (ht : t.length ≤ 64) (hij : i ≠ j) (hL : 64 * j + 64 ≤ L.length) : ((splice L (64 * j) t).drop (64 * i)).take 64 = (L.drop (64 * i)).take 64 := by
  apply List.ext_getElem?
  intro k
  by_cases hk : k < 64
  · rw [List.getElem?_take_of_lt hk, List.getElem?_take_of_lt hk, List.getElem?_drop, List.getElem?_drop]
    unfold splice
    rcases Nat.lt_or_gt_of_ne hij with h | h
    · rw [List.getElem?_append_left (by simp; omega), List.getElem?_take_of_lt (by omega)]
    · rw [List.getElem?_append_right (by simp; omega), List.getElem?_append_right (by simp; omega), List.getElem?_drop]
      congr 1
      simp
      omega
  · rw [List.getElem?_eq_none (by simp; omega), List.getElem?_eq_none (by simp; omega)]
theorem splice_same {α : Type} {L t : List α} {i : Nat} (ht : t.length ≤ 64) (hL : 64 * i + 64 ≤ L.length) : ((splice L (64 * i) t).drop (64 * i)).take 64 = t ++ (((L.drop (64 * i)).take 64).drop t.length) := by
  apply List.ext_getElem?
  intro k
  by_cases hk : k < 64
  · rw [List.getElem?_take_of_lt hk, List.getElem?_drop]
    unfold splice
    by_cases h : k < t.length
    · rw [List.getElem?_append_right (by simp; omega), List.getElem?_append_left (by simp; omega), List.getElem?_append_left h]
      congr 1; simp; omega
    · rw [List.getElem?_append_right (by simp; omega), List.getElem?_append_right (by simp; omega), List.getElem?_append_right (by omega), List.getElem?_drop, List.getElem?_drop, List.getElem?_take_of_lt (by omega), List.getElem?_drop]
      congr 1; simp; omega
  · rw [List.getElem?_eq_none (by simp; omega), List.getElem?_eq_none (by simp; omega)]
theorem Dk.sec_len {d : Dk} (h : d.Ok) {i : Nat} (hi : i < d.n) : (d.sec i).length = 64 := by
  unfold Dk.sec
  rw [List.length_take, List.length_drop, h.st]
  omega
def Dk.sel (d : Dk) (i : Nat) : List UInt8 := (d.el.drop (64 * i)).take 64
theorem Dk.sel_len {d : Dk} (h : d.Ok) {i : Nat} (hi : i < d.n) : (d.sel i).length = 64 := by
  unfold Dk.sel
  rw [List.length_take, List.length_drop, h.el]
  omega
theorem Dk.set_sec {d : Dk} (h : d.Ok) {i j : Nat} {t : List UInt8} (hj : j < d.n) (ht : t.length ≤ 64) : (d.set_ j t).sec i = if i = j then t ++ (d.sec i).drop t.length else d.sec i := by
  split
  · rename_i e
    subst e
    exact splice_same ht (by rw [h.st]; omega)
  · rename_i e
    exact splice_far ht e (by rw [h.st]; omega)
theorem Dk.set_sel {d : Dk} (h : d.Ok) {i j : Nat} {t : List UInt8} (hj : j < d.n) : (d.set_ j t).sel i = if i = j then d.sec i else d.sel i := by
  have hl := Dk.sec_len h hj
  split
  · rename_i e
    subst e
    show ((splice d.el (64 * i) (d.sec i)).drop (64 * i)).take 64 = _
    rw [splice_same (by omega) (by rw [h.el]; omega), List.drop_of_length_le (by rw [List.length_take, List.length_drop, h.el]; omega), List.append_nil]
  · rename_i e
    show ((splice d.el (64 * j) (d.sec j)).drop (64 * i)).take 64 = _
    exact splice_far (by omega) e (by rw [h.el]; omega)

/-- Sectors, and what each contained before it was last changed. -/
structure Ss where
  f : Nat → List UInt8
  e : Nat → List UInt8
def Ss.put (S : Ss) (p : Nat × List UInt8) : Ss := ⟨fun i => if i = p.1 then p.2 else S.f i, fun i => if i = p.1 then S.f i else S.e i⟩
def Ss.puts (S : Ss) (l : List (Nat × List UInt8)) : Ss := l.foldl Ss.put S
def tornF (f : Nat → List UInt8) (p : Nat × List UInt8) (m : Nat) : Nat → List UInt8 := fun i => if i = p.1 then p.2.take m ++ (f i).drop m else f i
/-- What a failure of the power may leave of writes. -/
def Cr (n : Nat) (S : Ss) : List (Nat × List UInt8) → (Nat → List UInt8) → Prop
  | [], g => ∀ i, i < n → g i = S.f i
  | p :: r, g => (∃ m, m ≤ 64 ∧ ∀ i, i < n → g i = tornF S.f p m i) ∨ Cr n (S.put p) r g
theorem Ss.puts_app (S : Ss) (a b : List (Nat × List UInt8)) : S.puts (a ++ b) = (S.puts a).puts b := by unfold Ss.puts; rw [List.foldl_append]
theorem Ss.puts_far {i : Nat} : ∀ (l : List (Nat × List UInt8)) (S : Ss), (∀ p ∈ l, p.1 ≠ i) → (S.puts l).f i = S.f i ∧ (S.puts l).e i = S.e i
  | [], _, _ => ⟨rfl, rfl⟩
  | p :: r, S, h => by
    have h1 := Ss.puts_far r (S.put p) (fun q hq => h q (List.mem_cons_of_mem _ hq))
    have h2 : i ≠ p.1 := fun e => h p List.mem_cons_self e.symm
    refine ⟨h1.1.trans (if_neg h2), h1.2.trans (if_neg h2)⟩
theorem Cr.app {n : Nat} {g : Nat → List UInt8} : ∀ {a b : List (Nat × List UInt8)} {S : Ss}, Cr n S (a ++ b) g → Cr n S a g ∨ Cr n (S.puts a) b g
  | [], _, _, h => .inr h
  | p :: r, b, S, h => by
    rcases h with h | h
    · exact .inl (.inl h)
    · rcases Cr.app (a := r) h with h1 | h1
      · exact .inl (.inr h1)
      · exact .inr h1
theorem Cr.left {n : Nat} {g : Nat → List UInt8} : ∀ {a b : List (Nat × List UInt8)} {S : Ss}, (∀ p ∈ a ++ b, p.2.length = 64) → Cr n S a g → Cr n S (a ++ b) g
  | [], b, S, _, h => by
    cases b with
    | nil => exact h
    | cons p r =>
      refine .inl ⟨0, by omega, fun i hi => (h i hi).trans ?_⟩
      unfold tornF
      split <;> simp
  | p :: r, b, S, hl, h => by
    rcases h with h | h
    · exact .inl h
    · exact .inr (Cr.left (fun q hq => hl q (List.mem_cons_of_mem _ hq)) h)
theorem Cr.right {n : Nat} {g : Nat → List UInt8} : ∀ {a b : List (Nat × List UInt8)} {S : Ss}, Cr n (S.puts a) b g → Cr n S (a ++ b) g
  | [], _, _, h => h
  | _ :: r, _, _, h => .inr (Cr.right (a := r) h)
theorem Cr.far {n i : Nat} {g : Nat → List UInt8} (hi : i < n) : ∀ {l : List (Nat × List UInt8)} {S : Ss}, Cr n S l g → (∀ p ∈ l, p.1 ≠ i) → g i = S.f i
  | [], _, h, _ => h i hi
  | p :: r, S, h, hf => by
    have h2 : i ≠ p.1 := fun e => hf p List.mem_cons_self e.symm
    rcases h with ⟨m, _, h⟩ | h
    · rw [h i hi]; exact if_neg h2
    · rw [Cr.far hi h (fun q hq => hf q (List.mem_cons_of_mem _ hq))]; exact if_neg h2

/-! The disk. -/
def toW (q : List (Nat × ByteArray)) : List (Nat × List UInt8) := q.map fun p => (p.1, p.2.data.toList)
def Dk.ss (d : Dk) : Ss := ⟨d.sec, d.sel⟩
/-- Alike on the first n sectors. -/
def Alike (n : Nat) (S T : Ss) : Prop := ∀ i, i < n → S.f i = T.f i ∧ S.e i = T.e i
theorem Alike.refl (n : Nat) (S : Ss) : Alike n S S := fun _ _ => ⟨rfl, rfl⟩
theorem Alike.trans {n : Nat} {S T U : Ss} (h : Alike n S T) (k : Alike n T U) : Alike n S U := fun i hi => ⟨(h i hi).1.trans (k i hi).1, (h i hi).2.trans (k i hi).2⟩
theorem Alike.put {n : Nat} {S T : Ss} (h : Alike n S T) (p : Nat × List UInt8) : Alike n (S.put p) (T.put p) := fun i hi => by
  unfold Ss.put
  simp only
  rw [(h i hi).1, (h i hi).2]
  exact ⟨rfl, rfl⟩
theorem Alike.puts {n : Nat} (l : List (Nat × List UInt8)) : ∀ {S T : Ss}, Alike n S T → Alike n (S.puts l) (T.puts l) := by
  induction l with
  | nil => exact fun h => h
  | cons p r ih => exact fun h => ih (h.put p)
theorem Cr.alike {n : Nat} {g : Nat → List UInt8} : ∀ {l : List (Nat × List UInt8)} {S T : Ss}, Alike n S T → Cr n T l g → Cr n S l g
  | [], _, _, h, k => fun i hi => (k i hi).trans (h i hi).1.symm
  | p :: r, S, T, h, k => by
    rcases k with ⟨m, hm, k⟩ | k
    · refine .inl ⟨m, hm, fun i hi => (k i hi).trans ?_⟩
      unfold tornF
      rw [(h i hi).1]
    · exact .inr (Cr.alike (h.put p) k)
theorem bal (t : ByteArray) : t.data.toList.length = t.size := by simp
theorem Dk.set_put {d : Dk} (h : d.Ok) {p : Nat × ByteArray} (hp : p.1 < d.n) (ht : p.2.size = 64) : Alike d.n (d.set_ p.1 p.2.data.toList).ss (d.ss.put (p.1, p.2.data.toList)) := fun i hi => by
  have hl := bal p.2
  have hs := Dk.sec_len h hi
  refine ⟨?_, ?_⟩
  · show (d.set_ p.1 p.2.data.toList).sec i = _
    rw [Dk.set_sec h hp (by omega), List.drop_of_length_le (by omega), List.append_nil]
    rfl
  · show (d.set_ p.1 p.2.data.toList).sel i = _
    rw [Dk.set_sel h hp]
    rfl
theorem Dk.settle_puts : ∀ (q : List (Nat × ByteArray)) {d : Dk}, d.Ok → (∀ p ∈ q, p.1 < d.n ∧ p.2.size = 64) → Alike d.n (d.settle q).ss (d.ss.puts (toW q))
  | [], _, _, _ => Alike.refl _ _
  | p :: r, d, h, hq => by
    have hp := hq p List.mem_cons_self
    have hl := bal p.2
    have h1 := Dk.settle_puts r (d := d.set_ p.1 p.2.data.toList) (Dk.set_ok h hp.1 (by omega)) (fun x hx => hq x (List.mem_cons_of_mem _ hx))
    exact h1.trans (Alike.puts (toW r) (Dk.set_put h hp.1 hp.2))
theorem lastOf_cons (p : Nat × ByteArray) (l : List (Nat × ByteArray)) (i : Nat) : lastOf (p :: l) i = (lastOf l i).or (if p.1 = i then some p.2 else none) := by
  unfold lastOf
  rw [List.reverse_cons, List.find?_append]
  cases h2 : l.reverse.find? (fun p => p.1 == i) with
  | some q => simp
  | none =>
    simp only [Option.none_or, List.find?_cons, List.find?_nil, Option.map_none]
    by_cases h3 : p.1 = i
    · simp [h3]
    · have : (p.1 == i) = false := by simpa using h3
      simp [this, h3]
theorem last_puts (i : Nat) : ∀ (q : List (Nat × ByteArray)) (S : Ss), (S.puts (toW q)).f i = ((lastOf q i).map fun t => t.data.toList).getD (S.f i)
  | [], _ => rfl
  | p :: r, S => by
    have h1 := last_puts i r (S.put (p.1, p.2.data.toList))
    refine h1.trans ?_
    rw [lastOf_cons]
    cases h2 : lastOf r i with
    | some q => rfl
    | none =>
      simp only [Option.none_or, Option.map_none, Option.getD_none]
      by_cases h3 : p.1 = i
      · rw [if_pos h3]; exact if_pos h3.symm
      · rw [if_neg h3]; exact if_neg fun e => h3 e.symm
/-- What the sectors show: the pending writes, too. -/
theorem Dk.vw_puts (d : Dk) (i : Nat) : d.vw i = (d.ss.puts (toW d.q)).f i := by
  rw [last_puts]
  unfold Dk.vw Dk.view
  cases lastOf d.q i <;> rfl
theorem toW_take (q : List (Nat × ByteArray)) (k : Nat) : toW (q.take k) = (toW q).take k := by simp [toW, List.map_take]
theorem cr_take {n : Nat} {g : Nat → List UInt8} {m : Nat} (hm : m ≤ 64) : ∀ (k : Nat) {l : List (Nat × List UInt8)} {S : Ss}, (∀ p ∈ l, p.2.length = 64) →
    (∀ i, i < n → g i = match l[k]? with | some p => tornF (S.puts (l.take k)).f p m i | none => (S.puts (l.take k)).f i) → Cr n S l g
  | k, [], S, _, h => fun i hi => by simpa [Ss.puts] using h i hi
  | 0, p :: r, S, _, h => .inl ⟨m, hm, fun i hi => h i hi⟩
  | k + 1, p :: r, S, hl, h => .inr (cr_take hm k (fun q hq => hl q (List.mem_cons_of_mem _ hq)) fun i hi => h i hi)
/-- A failure of the power. -/
theorem Dk.fail_cr {d : Dk} (h : d.Ok) (ho : d.off = false) (x y : Int) : Cr d.n d.ss (toW d.q) (d.fail x y).sec ∧ (d.fail x y).Ok ∧ (d.fail x y).off = true ∧ (d.fail x y).q = [] ∧ (d.fail x y).n = d.n ∧ (d.fail x y).arm = none := by
  obtain ⟨k, hk⟩ : ∃ k, clamp x d.q.length = k := ⟨_, rfl⟩
  obtain ⟨m, hm⟩ : ∃ m, clamp y 64 = m := ⟨_, rfl⟩
  have hm64 : m ≤ 64 := by rw [← hm]; unfold clamp; omega
  have hq : ∀ p ∈ d.q.take k, p.1 < d.n ∧ p.2.size = 64 := fun p hp => h.q p (List.mem_of_mem_take hp)
  have h1 := Dk.settle_puts (d.q.take k) h hq
  have h2 := Dk.settle_ok (d.q.take k) h hq
  have h3 := (Dk.settle_same (d.q.take k) d).1
  have hf : d.fail x y = { (((d.settle (d.q.take k)).torn d.q[k]? m)) with q := [], off := true, arm := none } := by
    unfold Dk.fail
    rw [if_neg (by simp [ho]), hk, hm]
  have hlen : ∀ p ∈ toW d.q, p.2.length = 64 := fun p hp => by
    obtain ⟨t, ht, rfl⟩ := List.mem_map.1 hp
    exact (bal _).trans (h.q t ht).2
  have hto : (((d.settle (d.q.take k)).torn d.q[k]? m)).Ok ∧ ((d.settle (d.q.take k)).torn d.q[k]? m).n = d.n ∧
      ∀ i, i < d.n → ((d.settle (d.q.take k)).torn d.q[k]? m).sec i = match (toW d.q)[k]? with | some p => tornF (d.ss.puts ((toW d.q).take k)).f p m i | none => (d.ss.puts ((toW d.q).take k)).f i := by
    rw [toW_take] at h1
    have hm2 : (toW d.q)[k]? = d.q[k]?.map fun p => (p.1, p.2.data.toList) := by simp [toW]
    rw [hm2]
    cases hp : d.q[k]? with
    | none => exact ⟨h2, h3, fun i hi => (h1 i hi).1⟩
    | some p =>
      obtain ⟨hp1, hp2⟩ := h.q p (List.mem_of_getElem? hp)
      have hl := bal p.2
      unfold Dk.torn
      simp only [Option.map_some]
      split
      · have ht : (p.2.data.toList.take m).length = m := by rw [List.length_take]; omega
        refine ⟨Dk.set_ok h2 (by rw [h3]; exact hp1) (by omega), h3, fun i hi => ?_⟩
        rw [Dk.set_sec h2 (by rw [h3]; exact hp1) (by omega), ht]
        have := (h1 i hi).1
        unfold tornF
        rw [← this]
        rfl
      · obtain rfl : m = 0 := by omega
        refine ⟨h2, h3, fun i hi => ?_⟩
        have := (h1 i hi).1
        unfold tornF
        rw [← this]
        simp only [List.take_zero, List.nil_append, List.drop_zero]
        split <;> rfl
  rw [hf]
  obtain ⟨k1, k2, k3⟩ := hto
  exact ⟨cr_take hm64 k hlen k3, ⟨k1.n1, k1.n2, k1.st, k1.el, by simp, by simp⟩, rfl, rfl, k2, rfl⟩


/-- The disk is off; of the writes ws a failure of the power has left some. -/
structure Dead (n : Nat) (S : Ss) (ws : List (Nat × List UInt8)) (d : Dk) : Prop where
  ok : d.Ok
  off : d.off = true
  q : d.q = []
  nn : d.n = n
  arm : d.arm = none
  cr : Cr n S ws d.sec
def sizes (n : Nat) (ws : List (Nat × List UInt8)) : Prop := ∀ p ∈ ws, p.1 < n ∧ p.2.length = 64
theorem Dk.Ok.sizes {d : Dk} (h : d.Ok) : sizes d.n (toW d.q) := fun p hp => by
  obtain ⟨t, ht, rfl⟩ := List.mem_map.1 hp
  exact ⟨(h.q t ht).1, (bal _).trans (h.q t ht).2⟩
theorem sizes.app {n : Nat} {a b : List (Nat × List UInt8)} (h : sizes n a) (k : sizes n b) : sizes n (a ++ b) := fun p hp => (List.mem_append.1 hp).elim (h p) (k p)
theorem Dead.left {n : Nat} {S : Ss} {a b : List (Nat × List UInt8)} {d : Dk} (h : Dead n S a d) (hs : Go.Proofs.YtfjejfgdnjnflaaGreatDoor.sizes n (a ++ b)) : Dead n S (a ++ b) d :=
  ⟨h.ok, h.off, h.q, h.nn, h.arm, h.cr.left fun p hp => (hs p hp).2⟩

/-- What counting a call does. -/
theorem Dk.count_on {d : Dk} (h : d.Ok) (ho : d.off = false) :
    (d.count.2 = 0 ∧ d.count.1.Ok ∧ d.count.1.off = false ∧ d.count.1.n = d.n ∧ d.count.1.ss = d.ss ∧ d.count.1.q = d.q ∧ (d.arm = none → d.count.1.arm = none)) ∨ (d.count.2 = 25 ∧ d.arm ≠ none ∧ Dead d.n d.ss (toW d.q) d.count.1) := by
  cases ha : d.arm with
  | none =>
    have e : d.count = (d, 0) := by unfold Dk.count; rw [ha]
    rw [e]
    exact .inl ⟨rfl, h, ho, rfl, rfl, rfl, fun _ => ha⟩
  | some x =>
    obtain ⟨a, y, z⟩ := x
    by_cases h0 : 0 < a
    · have e : d.count = ({ d with arm := some (a - 1, y, z) }, 0) := by unfold Dk.count; rw [ha]; simp only; rw [if_pos h0]
      rw [e]
      have hx := h.arm _ ha
      refine .inl ⟨rfl, ⟨h.n1, h.n2, h.st, h.el, h.q, fun x hx2 => ?_⟩, ho, rfl, rfl, rfl, fun h => by cases h⟩
      obtain rfl : (a - 1, y, z) = x := by simpa using hx2
      simp only at hx ⊢
      omega
    · have e : d.count = (d.fail y z, 25) := by unfold Dk.count; rw [ha]; simp only; rw [if_neg h0]
      rw [e]
      obtain ⟨h1, h2, h3, h4, h5, h6⟩ := Dk.fail_cr h ho y z
      exact .inr ⟨rfl, by simp, h2, h3, h4, h5, h6, h1⟩
theorem Dk.write_on {d : Dk} (h : d.Ok) (ho : d.off = false) {p : Nat} {x : List UInt8} (hp : p < d.n) (hx : x.length = 64) :
    ((d.write p (bs x)).2 = 0 ∧ (d.write p (bs x)).1.Ok ∧ (d.write p (bs x)).1.off = false ∧ (d.write p (bs x)).1.n = d.n ∧ (d.write p (bs x)).1.ss = d.ss ∧ toW (d.write p (bs x)).1.q = toW d.q ++ [(p, x)] ∧ (d.arm = none → (d.write p (bs x)).1.arm = none)) ∨
      ((d.write p (bs x)).2 = 25 ∧ d.arm ≠ none ∧ Dead d.n d.ss (toW d.q ++ [(p, x)]) (d.write p (bs x)).1) := by
  have hhas : d.has (p : Int) = true := by simp [Dk.has]; omega
  have e : d.write p (bs x) = Dk.count { d with q := d.q ++ [(p, bs x)] } := by
    unfold Dk.write
    rw [if_neg (by simp [ho]), if_neg (by simp [hhas]), if_neg (by rw [bs_size, hx]; simp)]
    simp
  rw [e]
  have hq : toW (d.q ++ [(p, bs x)]) = toW d.q ++ [(p, x)] := by simp [toW, bs]
  have hok : Dk.Ok { d with q := d.q ++ [(p, bs x)] } := ⟨h.n1, h.n2, h.st, h.el, fun y hy => by
    rcases List.mem_append.1 hy with hy | hy
    · exact h.q y hy
    · obtain rfl : y = (p, bs x) := by simpa using hy
      exact ⟨hp, by rw [bs_size, hx]⟩, h.arm⟩
  rcases Dk.count_on hok ho with ⟨h1, h2, h3, h4, h5, h6, h7⟩ | ⟨h1, h2, h3⟩
  · exact .inl ⟨h1, h2, h3, h4, h5, by rw [h6]; exact hq, h7⟩
  · refine .inr ⟨h1, h2, ?_⟩
    rw [← hq]
    exact h3
theorem Dk.sync_on {d : Dk} (h : d.Ok) (ho : d.off = false) :
    (d.sync.2 = 0 ∧ d.sync.1.Ok ∧ d.sync.1.off = false ∧ d.sync.1.n = d.n ∧ Alike d.n d.sync.1.ss (d.ss.puts (toW d.q)) ∧ d.sync.1.q = [] ∧ (d.arm = none → d.sync.1.arm = none)) ∨
      (d.sync.2 = 25 ∧ d.arm ≠ none ∧ Dead d.n d.ss (toW d.q) d.sync.1) := by
  rcases Dk.count_on h ho with ⟨h1, h2, h3, h4, h5, h6, h7⟩ | ⟨h1, h2, h3⟩
  · have e : d.sync = ({ d.count.1.settle d.count.1.q with q := [] }, 0) := by unfold Dk.sync; rw [if_neg (by simp [ho]), if_pos h1]
    rw [e]
    have hs := Dk.settle_same d.count.1.q d.count.1
    have hp := Dk.settle_puts d.count.1.q h2 (fun p hp => h2.q p hp)
    have hk := Dk.settle_ok d.count.1.q h2 (fun p hp => h2.q p hp)
    rw [h4, h5, h6] at hp
    refine .inl ⟨rfl, ⟨hk.n1, hk.n2, hk.st, hk.el, by simp, hk.arm⟩, hs.2.2.1.trans h3, hs.1.trans h4, ?_, rfl, fun ha => hs.2.2.2.trans (h7 ha)⟩
    rw [h6]
    exact hp
  · have e : d.sync = d.count := by unfold Dk.sync; rw [if_neg (by simp [ho]), if_neg (by rw [h1]; decide)]
    rw [e]
    exact .inr ⟨h1, h2, h3⟩
/-- The writes of sectors from a place on. -/
def enumW : Nat → List (List UInt8) → List (Nat × List UInt8)
  | _, [] => []
  | p, s :: r => (p, s) :: enumW (p + 1) r
theorem enumW_mem : ∀ {l : List (List UInt8)} {p : Nat} {x : Nat × List UInt8}, x ∈ enumW p l → p ≤ x.1 ∧ x.1 < p + l.length ∧ x.2 ∈ l
  | [], _, _, h => by simp [enumW] at h
  | s :: r, p, x, h => by
    rcases List.mem_cons.1 h with rfl | h
    · exact ⟨Nat.le_refl _, by simp, List.mem_cons_self⟩
    · obtain ⟨h1, h2, h3⟩ := enumW_mem h
      exact ⟨by omega, by simp only [List.length_cons]; omega, List.mem_cons_of_mem _ h3⟩
theorem enumW_sizes {n p : Nat} {l : List (List UInt8)} (h : p + l.length ≤ n) (hl : ∀ s ∈ l, s.length = 64) : sizes n (enumW p l) := fun x hx => by
  obtain ⟨h1, h2, h3⟩ := enumW_mem hx
  exact ⟨by omega, hl _ h3⟩
theorem Dk.puts_on : ∀ (l : List (List UInt8)) {d : Dk} {p : Nat}, d.Ok → d.off = false → p + l.length ≤ d.n → (∀ s ∈ l, s.length = 64) →
    ((d.puts p l).2 = 0 ∧ (d.puts p l).1.Ok ∧ (d.puts p l).1.off = false ∧ (d.puts p l).1.n = d.n ∧ Alike d.n (d.puts p l).1.ss (d.ss.puts (toW d.q ++ enumW p l)) ∧ (d.puts p l).1.q = [] ∧ (d.arm = none → (d.puts p l).1.arm = none)) ∨
      ((d.puts p l).2 = 25 ∧ d.arm ≠ none ∧ Dead d.n d.ss (toW d.q ++ enumW p l) (d.puts p l).1)
  | [], d, p, h, ho, _, _ => by
    simp only [enumW, List.append_nil]
    exact Dk.sync_on h ho
  | s :: r, d, p, h, ho, hp, hl => by
    simp only [List.length_cons] at hp
    rcases Dk.write_on h ho (p := p) (x := s) (by omega) (hl s List.mem_cons_self) with ⟨h1, h2, h3, h4, h5, h6, h7⟩ | ⟨h1, h2, h3⟩
    · have e : d.puts p (s :: r) = (d.write p (bs s)).1.puts (p + 1) r := by simp only [Dk.puts]; rw [if_pos h1]
      rw [e]
      have e2 : toW d.q ++ enumW p (s :: r) = toW (d.write p (bs s)).1.q ++ enumW (p + 1) r := by rw [h6, enumW, List.append_assoc]; rfl
      rw [e2]
      rcases Dk.puts_on r h2 h3 (p := p + 1) (by omega) (fun x hx => hl x (List.mem_cons_of_mem _ hx)) with ⟨k1, k2, k3, k4, k5, k6, k7⟩ | ⟨k1, k2, k3⟩
      · rw [h4, h5] at k5
        exact .inl ⟨k1, k2, k3, k4.trans h4, k5, k6, fun ha => k7 (h7 ha)⟩
      · rw [h4, h5] at k3
        exact .inr ⟨k1, fun ha => k2 (h7 ha), k3⟩
    · have e : d.puts p (s :: r) = d.write p (bs s) := by simp only [Dk.puts]; rw [if_neg (by rw [h1]; decide)]
      rw [e]
      refine .inr ⟨h1, h2, ?_⟩
      have e2 : toW d.q ++ enumW p (s :: r) = (toW d.q ++ [(p, s)]) ++ enumW (p + 1) r := by rw [enumW, List.append_assoc]; rfl
      rw [e2]
      refine h3.left ?_
      rw [← e2]
      exact h.sizes.app (enumW_sizes hp hl)
/-- All writes of some steps. -/
def flatW (L : List (Nat × List (List UInt8))) : List (Nat × List UInt8) := (L.map fun x => enumW x.1 x.2).flatten
theorem flatW_cons (x : Nat × List (List UInt8)) (L : List (Nat × List (List UInt8))) : flatW (x :: L) = enumW x.1 x.2 ++ flatW L := by simp [flatW]
theorem flatW_app (a b : List (Nat × List (List UInt8))) : flatW (a ++ b) = flatW a ++ flatW b := by simp [flatW]
def stepsOk (n : Nat) (L : List (Nat × List (List UInt8))) : Prop := ∀ x ∈ L, x.1 + x.2.length ≤ n ∧ ∀ s ∈ x.2, s.length = 64
theorem flatW_sizes {n : Nat} : ∀ {L : List (Nat × List (List UInt8))}, stepsOk n L → sizes n (flatW L)
  | [], _ => fun p hp => by simp [flatW] at hp
  | x :: L, h => by
    rw [flatW_cons]
    exact (enumW_sizes (h x List.mem_cons_self).1 (h x List.mem_cons_self).2).app (flatW_sizes fun y hy => h y (List.mem_cons_of_mem _ hy))
theorem Dk.steps_on : ∀ (L : List (Nat × List (List UInt8))) {d : Dk}, d.Ok → d.off = false → stepsOk d.n L →
    ((d.steps L).2 = 0 ∧ (d.steps L).1.Ok ∧ (d.steps L).1.off = false ∧ (d.steps L).1.n = d.n ∧ Alike d.n ((d.steps L).1.ss.puts (toW (d.steps L).1.q)) (d.ss.puts (toW d.q ++ flatW L)) ∧ (L ≠ [] ∨ d.q = [] → (d.steps L).1.q = []) ∧ (d.arm = none → (d.steps L).1.arm = none)) ∨
      ((d.steps L).2 = 25 ∧ d.arm ≠ none ∧ Dead d.n d.ss (toW d.q ++ flatW L) (d.steps L).1)
  | [], d, h, ho, _ => by
    refine .inl ⟨rfl, h, ho, rfl, ?_, fun hq => ?_, fun ha => ha⟩
    · simp only [flatW, List.map_nil, List.flatten_nil, List.append_nil]
      exact Alike.refl _ _
    · rcases hq with hq | hq
      · exact absurd rfl hq
      · exact hq
  | (p, l) :: L, d, h, ho, hL => by
    have hx := hL (p, l) List.mem_cons_self
    have hL2 : stepsOk d.n L := fun y hy => hL y (List.mem_cons_of_mem _ hy)
    rw [flatW_cons, ← List.append_assoc]
    rcases Dk.puts_on l h ho hx.1 hx.2 with ⟨h1, h2, h3, h4, h5, h6, h7⟩ | ⟨h1, h2, h3⟩
    · have e : d.steps ((p, l) :: L) = (d.puts p l).1.steps L := by simp only [Dk.steps]; rw [if_pos h1]
      rw [e]
      rcases Dk.steps_on L h2 h3 (by rw [h4]; exact hL2) with ⟨k1, k2, k3, k4, k5, k6, k7⟩ | ⟨k1, k2, k3⟩
      · rw [h4, h6] at k5
        refine .inl ⟨k1, k2, k3, k4.trans h4, ?_, fun _ => k6 (.inr h6), fun ha => k7 (h7 ha)⟩
        rw [Ss.puts_app]
        exact k5.trans (h5.puts (flatW L))
      · rw [h4, h6] at k3
        exact .inr ⟨k1, fun ha => k2 (h7 ha), k3.ok, k3.off, k3.q, k3.nn, k3.arm, Cr.right (Cr.alike (fun i hi => ⟨(h5 i hi).1.symm, (h5 i hi).2.symm⟩) k3.cr)⟩
    · have e : d.steps ((p, l) :: L) = d.puts p l := by simp only [Dk.steps]; rw [if_neg (by rw [h1]; decide)]
      rw [e]
      exact .inr ⟨h1, h2, h3.left ((h.sizes.app (enumW_sizes hx.1 hx.2)).app (flatW_sizes hL2))⟩
theorem Dk.steps_app : ∀ (a b : List (Nat × List (List UInt8))) (d : Dk), d.steps (a ++ b) = if (d.steps a).2 = 0 then (d.steps a).1.steps b else d.steps a
  | [], b, d => by simp [Dk.steps]
  | (p, l) :: a, b, d => by
    simp only [List.cons_append, Dk.steps]
    split
    · exact Dk.steps_app a b _
    · rfl


theorem hexc_ne (n : Nat) (h : n < 16) : hexc n ≠ 0 := by
  intro e
  have h2 := congrArg UInt8.toNat e
  unfold hexc at h2
  split at h2
  · rw [UInt8.toNat_ofNat'] at h2
    simp at h2
    omega
  · rw [UInt8.toNat_ofNat'] at h2
    simp at h2
    omega
theorem sum_byte (l : List UInt8) {i : Nat} (hi : i < 16) : ∃ b, (sumL l)[i]? = some b ∧ b ≠ 0 := by
  unfold sumL hexL
  rw [List.getElem?_map, List.getElem?_range hi]
  exact ⟨_, rfl, hexc_ne _ (Nat.mod_lt _ (by decide))⟩
theorem seal_byte (place : Nat) (c : List UInt8) {i : Nat} (hi : i < 16) : ∃ b, (sealL place c)[i]? = some b ∧ b ≠ 0 := by
  unfold sealL
  rw [List.getElem?_append_left (by rw [sumL_len]; exact hi)]
  exact sum_byte _ hi
theorem zero_byte {i : Nat} (hi : i < 64) : zeroL[i]? = some 0 := by unfold zeroL; rw [List.getElem?_replicate, if_pos hi]
theorem seal_drop (place : Nat) (c : List UInt8) : (sealL place c).drop 16 = padL 48 c := by
  unfold sealL
  rw [← sumL_len (lastD 8 place ++ padL 48 c), List.drop_left]
theorem seal_take (place : Nat) (c : List UInt8) : (sealL place c).take 16 = sumL (lastD 8 place ++ padL 48 c) := by
  unfold sealL
  rw [← sumL_len (lastD 8 place ++ padL 48 c), List.take_left]
theorem zeroL_len : zeroL.length = 64 := by simp [zeroL]
theorem head_pad (n : Nat) : padL 48 (lastD 8 n) = lastD 8 n ++ List.replicate 40 0 := by
  rw [padL_short (by rw [lastD_len]; decide), lastD_len]
theorem head_content {p a b : Nat} (ha : a < 100000000) (hb : b < 100000000) (h : (headL p a).drop 16 = (headL p b).drop 16) : a = b := by
  unfold headL at h
  rw [seal_drop, seal_drop, head_pad, head_pad] at h
  exact lastD_inj ha hb (List.append_inj h (by rw [lastD_len, lastD_len])).1
theorem head_digest {p a b : Nat} (ha : a < 100000000) (hb : b < 100000000) (h : (headL p a).take 16 = (headL p b).take 16) : a = b := by
  unfold headL at h
  rw [seal_take, seal_take, head_pad, head_pad] at h
  have e := sumL_block (j := 1) (lastD_len 8 p) (lastD_len 8 a) (lastD_len 8 b) (by simp only [List.length_append, lastD_len, List.length_replicate]; decide) h
  exact lastD_inj ha hb e
theorem head_zero_content {p a : Nat} : (headL p a).drop 16 ≠ zeroL.drop 16 := by
  intro h
  have h1 := headL_digits p a
  rw [h] at h1
  have h2 := congrArg (fun l => l[7]?) h1
  have h3 := c8_nat (Nat.mod_lt a (show 0 < 10 by decide))
  have e1 : ((zeroL.drop 16).take 8)[7]? = some (0 : UInt8) := by decide
  have e2 : (lastD 8 a)[7]? = some (c8 (a % 10)) := by
    rw [lastD, List.getElem?_append_right (by rw [lastD_len]; exact Nat.le_refl _), lastD_len]
    rfl
  simp only [e1, e2] at h2
  injection h2 with h2
  rw [← h2] at h3
  simp at h3
  omega
/-- What a head may be that a journal's count of c wrote. -/
def Hd1 (p c : Nat) (v : List UInt8) : Prop := v = headL p c ∨ (c = 0 ∧ v = zeroL)
theorem torn_get {a b : List UInt8} {m i : Nat} (ha : a.length = 64) (him : i < m) (h64 : i < 64) : (a.take m ++ b.drop m)[i]? = a[i]? := by
  rw [List.getElem?_append_left (by rw [List.length_take]; omega), List.getElem?_take_of_lt him]
theorem torn_zero {a b : List UInt8} : a.take 0 ++ b.drop 0 = b := by simp
theorem torn_drop {a b : List UInt8} {m : Nat} (ha : a.length = 64) (hm : m ≤ 16) : (a.take m ++ b.drop m).drop 16 = b.drop 16 := by
  rw [List.drop_append, List.drop_of_length_le (by rw [List.length_take]; omega), List.nil_append, List.drop_drop, List.length_take]
  congr 1
  omega
theorem torn_take {a b : List UInt8} {m : Nat} (ha : a.length = 64) (hm : 16 ≤ m) (hm2 : m ≤ 64) : (a.take m ++ b.drop m).take 16 = a.take 16 := by
  rw [List.take_append_of_le_length (by rw [List.length_take]; omega), List.take_take]
  congr 1
  omega
/-- A head that was torn while a new one was written over it. -/
theorem torn_head {p c k m room : Nat} {old : List UInt8} (ho : old = headL p c ∨ old = zeroL) (hc : c < 100000000) (hk : k < 100000000) (hr : room < 100000000) (hm : m ≤ 64) :
    (headL p k).take m ++ old.drop m = old ∨ (headL p k).take m ++ old.drop m = headL p k ∨ cntL p ((headL p k).take m ++ old.drop m) room = -1 := by
  have hl := headL_len p k
  rcases Nat.eq_zero_or_pos m with rfl | hm0
  · exact .inl torn_zero
  obtain ⟨v, hv⟩ : ∃ v, (headL p k).take m ++ old.drop m = v := ⟨_, rfl⟩
  rw [hv]
  rcases cntL_spec p v room with h | ⟨h, _⟩ | ⟨e, he, h, _⟩
  · exact .inr (.inr h)
  · exfalso
    obtain ⟨b, hb, hb0⟩ := seal_byte p (lastD 8 k) (i := 0) (by decide)
    have h1 := torn_get (b := old) hl hm0 (by decide)
    rw [hv, h, zero_byte (by decide)] at h1
    have h2 : (headL p k)[0]? = some b := hb
    rw [h2] at h1
    injection h1 with h1
    exact hb0 h1.symm
  · by_cases h16 : m ≤ 16
    · have h1 := torn_drop (b := old) hl h16
      rw [hv, h] at h1
      rcases ho with rfl | rfl
      · have := head_content (by omega) hc h1
        subst this
        exact .inl h
      · exact absurd h1 head_zero_content
    · have h1 := torn_take (b := old) hl (by omega) hm
      rw [hv, h] at h1
      have := head_digest (by omega) hk h1
      subst this
      exact .inr (.inl h)
/-- A sector that was torn while it was cleared. -/
theorem torn_clear {p m room : Nat} {old : List UInt8} (hm : m ≤ 64) : zeroL.take m ++ old.drop m = old ∨ zeroL.take m ++ old.drop m = zeroL ∨ cntL p (zeroL.take m ++ old.drop m) room = -1 := by
  rcases Nat.eq_zero_or_pos m with rfl | hm0
  · exact .inl torn_zero
  obtain ⟨v, hv⟩ : ∃ v, zeroL.take m ++ old.drop m = v := ⟨_, rfl⟩
  rw [hv]
  rcases cntL_spec p v room with h | ⟨h, _⟩ | ⟨e, he, h, _⟩
  · exact .inr (.inr h)
  · exact .inr (.inl h)
  · exfalso
    obtain ⟨b, hb, hb0⟩ := seal_byte p (lastD 8 e) (i := 0) (by decide)
    have h1 := torn_get (a := zeroL) (b := old) zeroL_len hm0 (by decide)
    rw [hv, h, zero_byte (by decide)] at h1
    have h2 : (headL p e)[0]? = some b := hb
    rw [h2] at h1
    injection h1 with h1
    exact hb0 h1
/-- Two sealed sectors never part in one byte alone. -/
theorem seal_rot {place : Nat} {c c' : List UInt8} {i : Nat} {b : UInt8} (hi : i < 64) (h : sealL place c' = (sealL place c).set i b) : sealL place c' = sealL place c := by
  have hl := padL_len 48 c
  have hl' := padL_len 48 c'
  have hs := seal_drop place c
  have hs' := seal_drop place c'
  have ht := seal_take place c
  have ht' := seal_take place c'
  have hC : padL 48 c' = padL 48 c := by
    by_cases h16 : i < 16
    · rw [← hs, ← hs', h, List.drop_set_of_lt h16]
    · have hd : padL 48 c' = (padL 48 c).set (i - 16) b := by
        rw [← hs, ← hs', h, List.drop_set, if_neg (by omega)]
      have hd2 : sumL (lastD 8 place ++ padL 48 c') = sumL (lastD 8 place ++ padL 48 c) := by
        rw [← ht, ← ht', h, List.take_set_of_le (by omega)]
      obtain ⟨k, hk⟩ : ∃ k, i - 16 = k := ⟨_, rfl⟩
      rw [hk] at hd
      have hk48 : k < 48 := by omega
      generalize padL 48 c = C at *
      generalize padL 48 c' = C' at *
      obtain ⟨j, hj⟩ : ∃ j, k / 8 = j := ⟨_, rfl⟩
      have e1 : C = C.take (8 * j) ++ ((C.drop (8 * j)).take 8 ++ C.drop (8 * j + 8)) := by
        rw [← List.drop_drop, List.take_append_drop, List.take_append_drop]
      have e2 : C' = C.take (8 * j) ++ ((C'.drop (8 * j)).take 8 ++ C.drop (8 * j + 8)) := by
        have a1 : C'.take (8 * j) = C.take (8 * j) := by rw [hd, List.take_set_of_le (by omega)]
        have a2 : C'.drop (8 * j + 8) = C.drop (8 * j + 8) := by rw [hd, List.drop_set_of_lt (by omega)]
        rw [← a1, ← a2, ← List.drop_drop, List.take_append_drop, List.take_append_drop]
      have hlx : ((C.drop (8 * j)).take 8).length = 8 := by rw [List.length_take, List.length_drop]; omega
      have hly : ((C'.drop (8 * j)).take 8).length = 8 := by rw [List.length_take, List.length_drop]; omega
      have hp : (lastD 8 place ++ C.take (8 * j)).length = 8 * (j + 1) := by rw [List.length_append, lastD_len, List.length_take]; omega
      have hx : (C'.drop (8 * j)).take 8 = (C.drop (8 * j)).take 8 := by
        refine sumL_block (j := j + 1) (p := lastD 8 place ++ C.take (8 * j)) (s := C.drop (8 * j + 8)) hp hly hlx ?_ ?_
        · simp only [List.length_append, hp, hly, List.length_drop]
          unfold two64
          omega
        · rw [List.append_assoc, List.append_assoc, ← e1, ← e2]
          exact hd2
      rw [e2, hx, ← e1]
  unfold sealL
  rw [hC]
/-- A head one byte of which rots. -/
theorem rot_head {p c room i : Nat} {v : List UInt8} {b x : UInt8} (hv : Hd1 p c v) (hi : i < 64) (hx : v[i]? = some x) (hb : b ≠ x) : cntL p (v.set i b) room = -1 := by
  have hne : v.set i b ≠ v := fun e => by
    have h1 := congrArg (fun l => l[i]?) e
    simp only [List.getElem?_set_self (List.getElem?_eq_some_iff.1 hx).1, hx] at h1
    injection h1 with h1
    exact hb h1
  rcases cntL_spec p (v.set i b) room with h | ⟨h, _⟩ | ⟨e, he, h, _⟩
  · exact h
  · exfalso
    rcases hv with rfl | ⟨_, rfl⟩
    · obtain ⟨j, hj, hji⟩ : ∃ j, j < 16 ∧ i ≠ j := by
        by_cases h0 : i = 0
        · exact ⟨1, by decide, by omega⟩
        · exact ⟨0, by decide, h0⟩
      obtain ⟨y, hy, hy0⟩ := seal_byte p (lastD 8 c) hj
      have h1 := congrArg (fun l => l[j]?) h
      simp only [List.getElem?_set_ne hji] at h1
      have h2 : (headL p c)[j]? = some y := hy
      rw [h2, zero_byte (by omega)] at h1
      injection h1 with h1
      exact hy0 h1
    · exact hne h
  · exfalso
    rcases hv with rfl | ⟨_, rfl⟩
    · have h1 : headL p e = headL p c := seal_rot hi h.symm
      exact hne (h.trans h1)
    · by_cases h16 : i < 16
      · have h1 : (zeroL.set i b).drop 16 = zeroL.drop 16 := List.drop_set_of_lt h16
        rw [h] at h1
        exact head_zero_content h1
      · obtain ⟨y, hy, hy0⟩ := seal_byte p (lastD 8 e) (i := 0) (by decide)
        have h1 := congrArg (fun l => l[0]?) h
        simp only [List.getElem?_set_ne (show i ≠ 0 by omega)] at h1
        have h2 : (headL p e)[0]? = some y := hy
        rw [h2, zero_byte (by decide)] at h1
        injection h1 with h1
        exact hy0 h1.symm
/-- A piece's sector one byte of which rots. -/
theorem rot_piece {p i : Nat} {t : List UInt8} {b x : UInt8} (hi : i < 64) (hx : (secL p t)[i]? = some x) (hb : b ≠ x) : pieceOf p ((secL p t).set i b) = none := by
  cases h : pieceOf p ((secL p t).set i b) with
  | none => rfl
  | some u =>
    exfalso
    have h1 := (pieceOf_some h).2.2
    have h2 : secL p u = secL p t := seal_rot hi h1.symm
    have h3 := congrArg (fun l => l[i]?) (h1.trans h2)
    simp only [List.getElem?_set_self (List.getElem?_eq_some_iff.1 hx).1, hx] at h3
    injection h3 with h3
    exact hb h3
theorem pieceOf_zero (p : Nat) : pieceOf p zeroL = none := by
  cases h : pieceOf p zeroL with
  | none => rfl
  | some u =>
    exfalso
    have h1 := (pieceOf_some h).2.2
    obtain ⟨y, hy, hy0⟩ := seal_byte p (lastD 2 u.length ++ u) (i := 0) (by decide)
    have h2 := congrArg (fun l => l[0]?) h1
    have h3 : (secL p u)[0]? = some y := hy
    simp only [h3, zero_byte (show 0 < 64 by decide)] at h2
    injection h2 with h2
    exact hy0 h2.symm
end Go.Proofs.YtfjejfgdnjnflaaGreatDoor
