/- The disk of the reference as plain data: its sectors as texts. -/
import Derived.Test.YtahkahmkoibmhaaLk
import Derived.Test.YtahkahmkoibmhaaLp
namespace Go.Proofs.Ytahkahmkoibmhaa
open Go.RowKit

def Dk.secB (d : Dk) (i : Nat) : ByteArray := ⟨(d.sec i).toArray⟩
def Dk.elB (d : Dk) (i : Nat) : ByteArray := ⟨((d.el.drop (64 * i)).take 64).toArray⟩
def Dk.stS (d : Dk) : List ByteArray := (List.range d.n).map d.secB
def Dk.elS (d : Dk) : List ByteArray := (List.range d.n).map d.elB
theorem Dk.stS_len (d : Dk) : d.stS.length = d.n := by simp [Dk.stS]
theorem Dk.elS_len (d : Dk) : d.elS.length = d.n := by simp [Dk.elS]
theorem Dk.stS_at (d : Dk) {i : Nat} (hi : i < d.n) : d.stS[i]? = some (d.secB i) := by simp [Dk.stS, hi]
theorem Dk.elS_at (d : Dk) {i : Nat} (hi : i < d.n) : d.elS[i]? = some (d.elB i) := by simp [Dk.elS, hi]
theorem Dk.secB_size {d : Dk} (h : d.Ok) {i : Nat} (hi : i < d.n) : (d.secB i).size = 64 := Dk.sec_len h hi
theorem Dk.elB_size {d : Dk} (h : d.Ok) {i : Nat} (hi : i < d.n) : (d.elB i).size = 64 := by
  show ((d.el.drop (64 * i)).take 64).length = 64
  rw [List.length_take, List.length_drop, h.el]
  omega
theorem toList_len (t : ByteArray) : t.data.toList.length = t.size := by simp
theorem bytes_eta (t : ByteArray) : (⟨t.data.toList.toArray⟩ : ByteArray) = t := rfl

theorem sectors_set {n : Nat} {f f' : Nat → ByteArray} {s : Nat} {t : ByteArray} (h : ∀ i, i < n → f' i = if s = i then t else f i) : (List.range n).map f' = ((List.range n).map f).set s t := by
  apply List.ext_getElem?
  intro i
  rw [List.getElem?_set]
  by_cases hi : i < n
  · simp only [List.getElem?_map, List.getElem?_range hi, Option.map_some, List.length_map, List.length_range, h i hi]
    by_cases hs : s = i
    · subst hs; simp [hi]
    · simp [hs]
  · have e1 : ((List.range n).map f')[i]? = none := by simp; omega
    have e2 : ((List.range n).map f)[i]? = none := by simp; omega
    rw [e1, e2]
    by_cases hs : s = i
    · subst hs; simp [hi]
    · simp [hs]

theorem splice_full {α : Type} {L t : List α} {i : Nat} (ht : t.length = 64) (hL : 64 * i + 64 ≤ L.length) : ((splice L (64 * i) t).drop (64 * i)).take 64 = t := by
  have h0 : List.drop t.length (List.take 64 (List.drop (64 * i) L)) = [] := List.drop_eq_nil_of_le (by rw [List.length_take]; omega)
  rw [splice_same (by omega) hL, h0, List.append_nil]
theorem Dk.set_sectors {d : Dk} (h : d.Ok) {i : Nat} {t : ByteArray} (hi : i < d.n) (ht : t.size = 64) :
    (d.set_ i t.data.toList).stS = d.stS.set i t ∧ (d.set_ i t.data.toList).elS = d.elS.set i (d.secB i) := by
  have hl := toList_len t
  refine ⟨sectors_set (n := d.n) fun j hj => ?_, sectors_set (n := d.n) fun j hj => ?_⟩
  · unfold Dk.secB
    by_cases hij : i = j
    · subst hij
      rw [if_pos rfl, Dk.set_sec_same h hi (by omega), List.drop_of_length_le (by rw [Dk.sec_len h hi]; omega), List.append_nil]
    · rw [if_neg hij, Dk.set_sec h hi (by omega) (fun e => hij e.symm)]
  · unfold Dk.elB Dk.set_
    simp only
    have hs : (List.take 64 (List.drop (64 * i) d.st)).length = 64 := Dk.sec_len h hi
    by_cases hij : i = j
    · subst hij
      rw [if_pos rfl, splice_full hs (by rw [h.el]; omega)]
      rfl
    · rw [if_neg hij, splice_far (by omega) (fun e => hij e.symm) (by rw [h.el]; omega)]

theorem Dk.set_torn {d : Dk} (h : d.Ok) {i k : Nat} {t : List UInt8} (hi : i < d.n) (ht : t.length = 64) (hk : k ≤ 64) : d.set_ i (t.take k) = d.set_ i (t.take k ++ (d.sec i).drop k) := by
  have hl : (t.take k).length = k := by simp; omega
  have key : splice d.st (64 * i) (t.take k) = splice d.st (64 * i) (t.take k ++ (d.sec i).drop k) := by
    unfold splice
    congr 1
    have hsl := Dk.sec_len h hi
    rw [List.length_append, List.length_drop, hsl, hl, List.append_assoc]
    congr 1
    have e1 : 64 * i + (k + (64 - k)) = 64 * i + 64 := by omega
    rw [e1]
    unfold Dk.sec
    have e2 : List.drop (64 * i + k) d.st = List.drop k (List.drop (64 * i) d.st) := by rw [List.drop_drop]
    have e3 : List.drop (64 * i + 64) d.st = List.drop 64 (List.drop (64 * i) d.st) := by rw [List.drop_drop]
    rw [e2, e3]
    have hm : (List.take 64 (List.drop (64 * i) d.st)).length = 64 := hsl
    generalize List.drop (64 * i) d.st = M at *
    conv => lhs; rw [← List.take_append_drop 64 M]
    rw [List.drop_append_of_le_length (by omega)]
  unfold Dk.set_
  rw [key]

theorem Dk.rot_sectors {d : Dk} (h : d.Ok) {s k m : Nat} (hs : s < d.n) (hk : k < 64) (h1 : 1 ≤ m) (h2 : m ≤ 255) (b : UInt8) (hb : (d.secB s).data[k]? = some b) :
    (d.rot (s : Int) k m).stS = d.stS.set s ((d.secB s).extract 0 k ++ ⟨#[b ^^^ UInt8.ofNat m]⟩ ++ (d.secB s).extract (k + 1) (d.secB s).size) ∧ (d.rot (s : Int) k m).elS = d.elS := by
  have hr : rotB d.n s k m = true := rotB_spec.2 (by omega)
  rw [Dk.rot_eq, if_pos hr]
  have e0 : 64 * (s : Int).toNat + (k : Int).toNat = 64 * s + k := by omega
  have e1 : UInt8.ofNat (m : Int).toNat = UInt8.ofNat m := by simp
  have hb' : (d.sec s)[k]? = some b := by
    have : (d.secB s).data[k]? = (d.sec s)[k]? := by simp [Dk.secB]
    rw [← this]; exact hb
  have hsl := Dk.sec_len h hs
  have hst : d.st.getD (64 * s + k) 0 = b := by
    have : d.st[64 * s + k]? = some b := by
      rw [← hb']
      unfold Dk.sec
      rw [List.getElem?_take_of_lt hk, List.getElem?_drop]
    simp [List.getD_eq_getElem?_getD, this]
  rw [e0, e1, hst]
  generalize b ^^^ UInt8.ofNat m = v
  refine ⟨sectors_set (n := d.n) fun j hj => ?_, rfl⟩
  have hg : ∀ x, x < 64 → ((List.drop (64 * j) (d.st.set (64 * s + k) v)).take 64)[x]? = if s = j ∧ k = x then some v else (d.sec j)[x]? := fun x hx => by
    unfold Dk.sec
    rw [List.getElem?_take_of_lt hx, List.getElem?_take_of_lt hx, List.getElem?_drop, List.getElem?_drop, List.getElem?_set]
    by_cases hc : s = j ∧ k = x
    · obtain ⟨rfl, rfl⟩ := hc
      rw [if_pos rfl, if_pos (show 64 * s + k < d.st.length by rw [h.st]; omega), if_pos (show s = s ∧ k = k from ⟨rfl, rfl⟩)]
    · rw [if_neg (by omega), if_neg hc]
  unfold Dk.secB
  by_cases hsj : s = j
  · subst hsj
    rw [if_pos rfl]
    apply ba_ext
    have e2 : ((⟨(d.sec s).toArray⟩ : ByteArray).extract 0 k ++ ⟨#[v]⟩ ++ (⟨(d.sec s).toArray⟩ : ByteArray).extract (k + 1) (⟨(d.sec s).toArray⟩ : ByteArray).size).data.toList = (d.sec s).take k ++ ([v] ++ (d.sec s).drop (k + 1)) := by
      have : (⟨(d.sec s).toArray⟩ : ByteArray).size = (d.sec s).length := rfl
      simp [ByteArray.data_append, ByteArray.data_extract, this, List.take_of_length_le]
    rw [e2]
    apply List.ext_getElem?
    intro x
    by_cases hx : x < 64
    · refine (hg x hx).trans ?_
      by_cases hkx : k = x
      · subst hkx
        rw [if_pos ⟨rfl, rfl⟩, List.getElem?_append_right (by simp; omega)]
        simp [hsl]
        rw [show k - min k 64 = 0 by omega]
        rfl
      · rw [if_neg (fun c => hkx c.2)]
        by_cases hlt : x < k
        · rw [List.getElem?_append_left (by simp; omega), List.getElem?_take_of_lt hlt]
        · rw [List.getElem?_append_right (by simp; omega), List.getElem?_append_right (by simp; omega), List.getElem?_drop]
          congr 1
          simp [hsl]; omega
    · rw [List.getElem?_eq_none (by show (List.take 64 _).length ≤ x; simp; omega), List.getElem?_eq_none (by simp; omega)]
  · rw [if_neg hsj]
    congr 2
    show (List.drop (64 * j) (d.st.set (64 * s + k) v)).take 64 = d.sec j
    apply List.ext_getElem?
    intro x
    by_cases hx : x < 64
    · rw [hg x hx, if_neg (fun c => hsj c.1)]
    · rw [List.getElem?_eq_none (by simp; omega), List.getElem?_eq_none (by unfold Dk.sec; simp; omega)]

theorem Dk.stale_sectors {d : Dk} (h : d.Ok) {s : Nat} (hs : s < d.n) : (d.stale (s : Int)).stS = d.stS.set s (d.elB s) ∧ (d.stale (s : Int)).elS = d.elS := by
  have hh : d.has (s : Int) = true := by simp [Dk.has]; omega
  unfold Dk.stale
  rw [if_pos hh]
  refine ⟨sectors_set (n := d.n) fun j hj => ?_, rfl⟩
  have hl : ((d.el.drop (64 * s)).take 64).length = 64 := by rw [List.length_take, List.length_drop, h.el]; omega
  have e0 : (s : Int).toNat = s := by omega
  unfold Dk.secB Dk.sec
  simp only [e0]
  by_cases hij : s = j
  · subst hij
    rw [if_pos rfl, splice_full hl (by rw [h.st]; omega)]
    rfl
  · rw [if_neg hij, splice_far (by omega) (fun e => hij e.symm) (by rw [h.st]; omega)]

def zero64 : ByteArray := ⟨(List.replicate 64 0).toArray⟩
theorem Dk.new_sectors (n : Nat) : (Dk.new n).stS = List.replicate n zero64 ∧ (Dk.new n).elS = List.replicate n zero64 := by
  have key : ∀ i, i < n → ((List.replicate (64 * n) (0 : UInt8)).drop (64 * i)).take 64 = List.replicate 64 0 := fun i hi => by
    rw [List.drop_replicate, List.take_replicate]
    congr 1
    omega
  refine ⟨?_, ?_⟩
  · apply List.ext_getElem?
    intro i
    by_cases hi : i < n
    · rw [Dk.stS_at _ (show i < (Dk.new n).n from hi), List.getElem?_replicate, if_pos hi]
      unfold Dk.secB Dk.sec zero64
      congr 3
      exact key i hi
    · rw [List.getElem?_eq_none (by rw [Dk.stS_len]; show n ≤ i; omega), List.getElem?_eq_none (by simp; omega)]
  · apply List.ext_getElem?
    intro i
    by_cases hi : i < n
    · rw [Dk.elS_at _ (show i < (Dk.new n).n from hi), List.getElem?_replicate, if_pos hi]
      unfold Dk.elB zero64
      congr 3
      exact key i hi
    · rw [List.getElem?_eq_none (by rw [Dk.elS_len]; show n ≤ i; omega), List.getElem?_eq_none (by simp; omega)]
end Go.Proofs.Ytahkahmkoibmhaa
