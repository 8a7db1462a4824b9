/- The plain law for DiskPrefix. -/
import Derived.Test.YtahkahmkoibmhaaLi
namespace Go.Proofs.Ytahkahmkoibmhaa
open Go.RowKit

/-- A write that succeeds on a disk with n sectors that is on and not armed. -/
def fits (n : Nat) (y : Ac) : Bool := decide (0 ≤ y.sector) && decide (y.sector < n) && decide (y.txt.size = 64)
def goods (n : Nat) (m : List Ac) : List Ac := m.filter (fits n)
def qOf (l : List Ac) : List (Nat × ByteArray) := l.map fun y => (y.sector.toNat, y.txt)
def Dk.pend (d : Dk) (l : List Ac) : Dk := { d with q := qOf l }

theorem fits_spec {n : Nat} {y : Ac} : fits n y = true ↔ 0 ≤ y.sector ∧ y.sector < n ∧ y.txt.size = 64 := by simp [fits, and_assoc]
theorem goods_take {n : Nat} {m : List Ac} {k : Nat} {y : Ac} (h : m[k]? = some y) : goods n (m.take (k + 1)) = goods n (m.take k) ++ (if fits n y then [y] else []) := by
  obtain ⟨hk, rfl⟩ := List.getElem?_eq_some_iff.1 h
  unfold goods
  rw [List.take_succ_eq_append_getElem hk, List.filter_append]
  congr 1
  by_cases h : fits n m[k] = true <;> simp [h]
theorem goods_len (n : Nat) (m : List Ac) : (goods n m).length ≤ m.length := List.length_filter_le _ _
theorem goods_fits {n : Nat} {m : List Ac} {y : Ac} (h : y ∈ goods n m) : fits n y = true := (List.mem_filter.1 h).2
theorem goods_mem {n : Nat} {m : List Ac} {y : Ac} (h : y ∈ goods n m) : y ∈ m := (List.mem_filter.1 h).1
theorem goods_pre (n : Nat) (m : List Ac) (k : Nat) : ∃ r, goods n m = goods n (m.take k) ++ r := by
  refine ⟨goods n (m.drop k), ?_⟩
  unfold goods
  rw [← List.filter_append, List.take_append_drop]

theorem Dk.pend_write {E : Dk} {g : List Ac} (ho : E.off = false) (ha : E.arm = none) (y : Ac) :
    (E.pend g).write y.sector y.txt = if fits E.n y then (E.pend (g ++ [y]), 0) else (E.pend g, 1) := by
  rw [Dk.write_start _ _ _ (show (E.pend g).off = false from ho) (show (E.pend g).arm = none from ha)]
  have e : ((E.pend g).has y.sector = true ∧ y.txt.size = 64) ↔ fits E.n y = true := by
    rw [fits_spec]
    have : (E.pend g).n = E.n := rfl
    simp only [Dk.has, this, Bool.and_eq_true, decide_eq_true_eq, and_assoc]
  by_cases h : fits E.n y = true
  · rw [if_pos (e.2 h), if_pos h]
    simp [Dk.pend, qOf]
  · rw [if_neg (fun c => h (e.1 c)), if_neg h]

theorem splice_same {α : Type} {L t : List α} {i : Nat} (ht : t.length ≤ 64) (hL : 64 * i + 64 ≤ L.length) : ((splice L (64 * i) t).drop (64 * i)).take 64 = t ++ ((L.drop (64 * i)).take 64).drop t.length := by
  apply List.ext_getElem?
  intro k
  unfold splice
  by_cases hk : k < 64
  · rw [List.getElem?_take_of_lt hk, List.getElem?_drop]
    by_cases h : k < t.length
    · rw [List.getElem?_append_right (by simp; omega), List.getElem?_append_left (by simp; omega), List.getElem?_append_left h]
      congr 1; simp; omega
    · rw [List.getElem?_append_right (by simp; omega), List.getElem?_append_right (by simp; omega), List.getElem?_append_right (by omega), List.getElem?_drop, List.getElem?_drop, List.getElem?_take_of_lt (by omega), List.getElem?_drop]
      congr 1; simp; omega
  · rw [List.getElem?_eq_none (by simp; omega), List.getElem?_eq_none (by simp; omega)]

theorem Dk.set_sec_same {d : Dk} (h : d.Ok) {i : Nat} {t : List UInt8} (hi : i < d.n) (ht : t.length ≤ 64) : (d.set_ i t).sec i = t ++ (d.sec i).drop t.length :=
  splice_same ht (by rw [h.st]; omega)
theorem Dk.sec_len {d : Dk} (h : d.Ok) {i : Nat} (hi : i < d.n) : (d.sec i).length = 64 := by
  unfold Dk.sec
  rw [List.length_take, List.length_drop, h.st]
  omega

theorem Dk.settle_view (i : Nat) (l : List (Nat × ByteArray)) : ∀ {d : Dk}, d.Ok → i < d.n → (∀ p ∈ l, p.1 < d.n ∧ p.2.size = 64) → (⟨((d.settle l).sec i).toArray⟩ : ByteArray) = (lastOf l i).getD ⟨(d.sec i).toArray⟩ := by
  induction l with
  | nil => intro d _ _ _; rfl
  | cons p l ih =>
    intro d h hi hl
    have hp := hl p (by simp)
    have hs : p.2.data.toList.length = 64 := by
      have : p.2.data.toList.length = p.2.size := by simp
      omega
    have h1 := ih (d := d.set_ p.1 p.2.data.toList) (Dk.set_ok h hp.1 (by omega)) hi (fun x hx => hl x (by simp [hx]))
    refine h1.trans ?_
    have e : lastOf (p :: l) i = (lastOf l i).or (if p.1 = i then some p.2 else none) := by
      unfold lastOf
      rw [List.reverse_cons, List.find?_append]
      cases h2 : l.reverse.find? (fun p => p.1 == i) with
      | some q => simp
      | none =>
        simp only [Option.none_or, List.find?_cons, List.find?_nil, Option.map_none]
        by_cases h3 : p.1 = i
        · simp [h3]
        · have : (p.1 == i) = false := by simpa using h3
          simp [this, h3]
    rw [e]
    cases h2 : lastOf l i with
    | some q => rfl
    | none =>
      simp only [Option.none_or, Option.getD_none]
      by_cases h3 : p.1 = i
      · subst h3
        rw [if_pos rfl, Dk.set_sec_same h hi (by omega), List.drop_of_length_le (by rw [Dk.sec_len h hi]; omega), List.append_nil]
        rfl
      · rw [if_neg h3, Dk.set_sec h hp.1 (by omega) (fun e => h3 e.symm)]
        rfl

theorem clamp_take {α : Type} (q : List α) (x : Nat) : q.take (clamp (x : Int) q.length) = q.take x ∧ q[clamp (x : Int) q.length]? = q[x]? := by
  unfold clamp
  by_cases h : x ≤ q.length
  · have : min (max (x : Int) 0).toNat q.length = x := by omega
    rw [this]
    exact ⟨rfl, rfl⟩
  · have : min (max (x : Int) 0).toNat q.length = q.length := by omega
    rw [this, List.take_of_length_le (by omega), List.take_of_length_le (by omega), List.getElem?_eq_none (by omega), List.getElem?_eq_none (by omega)]
    exact ⟨rfl, rfl⟩

/-- The power has failed behind the first x writes; y bytes of the next one. -/
theorem Dk.pend_fail {E : Dk} {g : List Ac} (ho : E.off = false) (x y : Nat) (hy : y ≤ 64) :
    (((E.pend g).fail (x : Int) (y : Int)).start).sec = (((E.pend g).settle (qOf (g.take x))).torn ((qOf g)[x]?) y).sec ∧ (((E.pend g).fail (x : Int) (y : Int)).start).q = [] ∧ (((E.pend g).fail (x : Int) (y : Int)).start).n = E.n := by
  refine ⟨?_, Dk.fail_empty _ _ _ (show (E.pend g).off = false from ho), (Dk.fail_n (E.pend g) x y)⟩
  unfold Dk.fail
  rw [if_neg (by rw [show (E.pend g).off = E.off from rfl, ho]; exact Bool.false_ne_true)]
  have h1 := clamp_take (qOf g) x
  have h2 : clamp (y : Int) 64 = y := by unfold clamp; omega
  have h3 : (E.pend g).q = qOf g := rfl
  rw [h3, h1.1, h1.2, h2, show (qOf g).take x = qOf (g.take x) by simp [qOf, List.map_take]]
  rfl

theorem pend_q {E : Dk} {g : List Ac} (hg : ∀ y ∈ g, fits E.n y = true) : ∀ p ∈ qOf g, p.1 < E.n ∧ p.2.size = 64 := by
  intro p hp
  obtain ⟨y, hy, rfl⟩ := List.mem_map.1 hp
  have := fits_spec.1 (hg y hy)
  exact ⟨by show y.sector.toNat < E.n; omega, this.2.2⟩

theorem prefix_none {E : Dk} {g : List Ac} (hE : E.Ok) (ho : E.off = false) (hg : ∀ y ∈ g, fits E.n y = true) (x y : Nat) (hy : y ≤ 64) (hx : g[x]? = none) :
    (((E.pend g).fail (x : Int) (y : Int)).start).views = (E.pend (g.take x)).views := by
  obtain ⟨h1, h2, h3⟩ := Dk.pend_fail (g := g) ho x y hy
  have hP : (E.pend g).Ok := ⟨hE.n1, hE.n2, hE.st, hE.el, pend_q hg, hE.arm⟩
  apply List.ext_getElem?
  intro i
  by_cases hi : i < E.n
  · rw [Dk.views_at _ _ (by omega), Dk.views_at _ _ (show i < (E.pend (g.take x)).n from hi), Dk.view_empty h2, h1]
    have : (qOf g)[x]? = none := by simp [qOf, hx]
    rw [this]
    show some (⟨(((E.pend g).settle (qOf (g.take x))).sec i).toArray⟩ : ByteArray) = _
    rw [Dk.settle_view i _ hP hi (fun p hp => pend_q hg p (by
      obtain ⟨z, hz, rfl⟩ := List.mem_map.1 hp
      exact List.mem_map.2 ⟨z, List.mem_of_mem_take hz, rfl⟩))]
    rfl
  · rw [List.getElem?_eq_none (by rw [Dk.views_len, h3]; omega), List.getElem?_eq_none (by rw [Dk.views_len]; show E.n ≤ i; omega)]

theorem ba_ext {a b : ByteArray} (h : a.data.toList = b.data.toList) : a = b := by
  obtain ⟨a⟩ := a
  obtain ⟨b⟩ := b
  congr 1
  exact Array.toList_inj.1 h

theorem prefix_some {E : Dk} {g : List Ac} (hE : E.Ok) (ho : E.off = false) (hg : ∀ y ∈ g, fits E.n y = true) (x y : Nat) (hy : y ≤ 64) {z : Ac} (hx : g[x]? = some z) :
    (((E.pend g).fail (x : Int) (y : Int)).start).views = (E.pend (g.take x)).views.set z.sector.toNat (z.txt.extract 0 y ++ ((E.pend (g.take x)).view z.sector.toNat).extract y ((E.pend (g.take x)).view z.sector.toNat).size) := by
  obtain ⟨h1, h2, h3⟩ := Dk.pend_fail (g := g) ho x y hy
  have hP : (E.pend g).Ok := ⟨hE.n1, hE.n2, hE.st, hE.el, pend_q hg, hE.arm⟩
  have hz := fits_spec.1 (hg z (List.mem_of_getElem? hx))
  have hqt : ∀ p ∈ qOf (g.take x), p.1 < (E.pend g).n ∧ p.2.size = 64 := fun p hp => pend_q hg p (by
      obtain ⟨z, hz, rfl⟩ := List.mem_map.1 hp
      exact List.mem_map.2 ⟨z, List.mem_of_mem_take hz, rfl⟩)
  have hS := Dk.settle_ok (qOf (g.take x)) hP hqt
  have hSn : ((E.pend g).settle (qOf (g.take x))).n = E.n := (Dk.settle_same _ _).1
  have key : ∀ i, i < E.n → (⟨(((E.pend g).settle (qOf (g.take x))).sec i).toArray⟩ : ByteArray) = (E.pend (g.take x)).view i := fun i hi => Dk.settle_view i _ hP hi hqt
  have hz1 : z.txt.data.toList.length = 64 := by
    have : z.txt.data.toList.length = z.txt.size := by simp
    omega
  apply List.ext_getElem?
  intro i
  by_cases hi : i < E.n
  · rw [Dk.views_at _ _ (by omega), Dk.view_empty h2, h1, List.getElem?_set, Dk.views_len, Dk.views_at _ _ (show i < (E.pend (g.take x)).n from hi)]
    have : (qOf g)[x]? = some (z.sector.toNat, z.txt) := by simp [qOf, hx]
    rw [this]
    have hk := key i hi
    have hsz : (z.txt.data.toList.take y).length = y := by simp; omega
    by_cases hzi : z.sector.toNat = i
    · rw [if_pos hzi, if_pos (show z.sector.toNat < (E.pend (g.take x)).n by show z.sector.toNat < E.n; omega)]
      subst hzi
      generalize (E.pend g).settle (qOf (g.take x)) = S at *
      generalize (E.pend (g.take x)).view z.sector.toNat = V at *
      congr 1
      apply ba_ext
      have e2 : (z.txt.extract 0 y ++ V.extract y V.size).data.toList = z.txt.data.toList.take y ++ V.data.toList.drop y := by
        simp [ByteArray.data_append, ByteArray.data_extract, List.take_of_length_le]
      rw [e2]
      have e3 : V.data.toList = S.sec z.sector.toNat := by rw [← hk]
      rw [e3]
      unfold Dk.torn
      simp only
      by_cases h0 : 0 < y
      · rw [if_pos h0, Dk.set_sec_same hS (by omega) (by omega), hsz]
      · have : y = 0 := by omega
        subst this
        simp
    · rw [if_neg hzi, ← hk]
      unfold Dk.torn
      simp only
      split
      · rw [Dk.set_sec hS (by rw [hSn]; omega) (by omega) (fun e => hzi e.symm)]
      · rfl
  · rw [List.getElem?_eq_none (by rw [Dk.views_len, h3]; omega), List.getElem?_eq_none (by rw [List.length_set, Dk.views_len]; show E.n ≤ i; omega)]
end Go.Proofs.Ytahkahmkoibmhaa
