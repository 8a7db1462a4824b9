/- The small functions of the statements about the disk: text, fill, size, ok, same, contents, do. -/
import Derived.Test.YtahkahmkoibmhaaDg
namespace Go.Proofs.Ytahkahmkoibmhaa
open Go.RowKit

/-- An operation. -/
structure Ac where
  kind : Int
  sector : Int
  bytes : Int
  text : ByteArray
  odd : Bool
  after : Int
def Ac.cells (a : Ac) : List Value := [.int .i64 a.kind, .int .i64 a.sector, .int .i64 a.bytes, .string a.text, .bool a.odd, .int .i64 a.after]
def Ac.val (a : Ac) : Value := .agg #[.int .i64 a.kind, .int .i64 a.sector, .int .i64 a.bytes, .string a.text, .bool a.odd, .int .i64 a.after]
def rep (l : List UInt8) (k : Nat) : List UInt8 := (List.replicate k l).flatten
def Ac.txt (a : Ac) : ByteArray := if a.odd = true ∨ a.text.data.toList = [] then a.text else ⟨((rep a.text.data.toList 64).take 64).toArray⟩

theorem rep_len (l : List UInt8) (k : Nat) : (rep l k).length = k * l.length := by simp [rep]
theorem rep_succ (l : List UInt8) (k : Nat) : rep l (k + 1) = rep l k ++ l := by
  unfold rep
  rw [List.replicate_succ', List.flatten_append]
  simp
theorem rep_take (l : List UInt8) (k n : Nat) (h : n ≤ (rep l k).length) : ∀ m, k ≤ m → (rep l m).take n = (rep l k).take n := by
  intro m hm
  induction m with
  | zero => obtain rfl : k = 0 := by omega
            rfl
  | succ m ih =>
    rcases Nat.eq_or_lt_of_le hm with rfl | hlt
    · rfl
    · rw [rep_succ, List.take_append_of_le_length, ih (by omega)]
      rw [rep_len] at h ⊢
      have : k * l.length ≤ m * l.length := Nat.mul_le_mul_right _ (by omega)
      omega

def strLen : Value → Nat
  | .string s => s.size
  | _ => 0
theorem str_empty {t : ByteArray} (h : t.data.toList = []) : t = ⟨#[]⟩ := by
  obtain ⟨d⟩ := t
  simp at h
  subst h
  rfl

set_option maxHeartbeats 400000 in
theorem text_any (w : World) (a : Ac) (ht : a.text.size ≤ 100) :
    Calls Try.prog 23 #[a.val] w fun e w' => e = .returned (.string a.txt) ∧ Below w.heap.size w w' := by
  obtain ⟨T, hT⟩ : ∃ T, a.txt = T := ⟨_, rfl⟩
  rw [hT]
  have HT := Lib.hid hT
  clear hT
  obtain ⟨k, s, b, t, o, af⟩ := a
  simp only [Ac.val] at *
  cases o with
  | true =>
    go_enter Try.func23, Try.ntmps23
    go_wp2
    go_ret
    have := HT.out
    simp only [Ac.txt, true_or, if_true] at this
    subst this
    exact ⟨rfl, (Below.refl _ _).alloc (Nat.le_refl _) _⟩
  | false =>
    by_cases h0 : t.data.toList = []
    · obtain rfl := str_empty h0
      clear h0
      go_enter Try.func23, Try.ntmps23
      go_wp2
      go_ret
      have := HT.out
      simp only [Ac.txt, or_true, if_true] at this
      subst this
      exact ⟨rfl, (Below.refl _ _).alloc (Nat.le_refl _) _⟩
    · have hl : 0 < t.data.toList.length := List.length_pos_iff.2 h0
      have hsz : t.data.toList.length = t.size := by simp
      have h2 : T = ⟨((rep t.data.toList 64).take 64).toArray⟩ := by
        rw [← HT.out]
        simp [Ac.txt, h0]
      have hne : t.toList.isEmpty = false := by rw [ByteArray.toList_eq]; simpa using h0
      have H2 := Lib.hid h2
      have hl' : 0 < t.size := by omega
      clear h0 h2 hl hsz
      go_enter Try.func23, Try.ntmps23
      go_wp2_with fail
      go_loop [3] (fun v => ∃ (k : Nat) (s : ByteArray), v = .string s ∧ s.data.toList = rep t.data.toList k ∧ k ≤ 64 ∧ s.size ≤ 163) (fun v => 64 - strLen v)
      case atStart => exact ⟨0, ⟨#[]⟩, rfl, rfl, by omega, by decide⟩
      case round =>
        obtain ⟨k, s, rfl, hs, hk, hz⟩ := hrel
        have HS := Lib.hid hs
        have hkl : k ≤ s.size := by
          have h1 : s.size = s.data.toList.length := by simp
          have h2 : t.size = t.data.toList.length := by simp
          rw [h1, hs, rep_len, ← h2]
          exact Nat.le_mul_of_pos_right k hl'
        clear hs
        by_cases hlt : s.size < 64
        · go_wp2
          go_round
          case rel =>
            refine ⟨k + 1, s ++ t, rfl, ?_, by omega, by simp; omega⟩
            rw [rep_succ, ← HS.out]
            simp
          case measure =>
            simp [strLen]
            omega
        · have sl : ∀ W : World, (Instr.slice 9 (.string s) none (some (.int .i64 64)) none).run Try.prog W = .ok (.string (s.extract 0 64)) W := fun W => by
            have := run_slice_string_h (P := Try.prog) W 9 s (by kernel_rfl) .i64 64 (by omega) (by omega)
            simpa using this
          go_wp2
          go_ret
          refine ⟨?_, (Below.refl _ _).alloc (Nat.le_refl _) _⟩
          rw [H2.out]
          have e : s.extract 0 64 = ⟨((rep t.data.toList 64).take 64).toArray⟩ := by
            apply WideShapes.bytes_inj
            rw [ext_take, HS.out]
            have h1 : s.size = s.data.toList.length := by simp
            rw [HS.out] at h1
            exact (rep_take _ k 64 (by omega) 64 hk).symm
          rw [← e]
          rfl

def fillAc (s : ByteArray) : Ac := ⟨0, 0, 0, s, false, 0⟩
set_option maxHeartbeats 400000 in
theorem fill_any (w : World) (s : ByteArray) (hs : s.size ≤ 100) :
    Calls Try.prog 27 #[.string s] w fun e w' => e = .returned (.string (fillAc s).txt) ∧ Below w.heap.size w w' := by
  go_enter Try.func27, Try.ntmps27
  go_wp2_with fail
  refine (text_any _ (fillAc s) hs).mono ?_
  rintro e w1 ⟨rfl, hb⟩
  go_wp2
  go_ret
  exact ⟨rfl, hb⟩

set_option maxHeartbeats 400000 in
theorem size_any (w : World) (r : Nat) (hr : r < 256) :
    Calls Try.prog 13 #[.int .u8 (r : Int)] w fun e w' => e = .returned (.int .i64 ((1 + r % 12 : Nat) : Int)) ∧ w = w' := by
  have h1 : (0 : Int) ≤ r := by omega
  have h2 : (r : Int) < 256 := by omega
  have hw : IntKind.i64.wrap (r : Int) = (r : Int) := IntWalk.i64_in _ (by omega)
  go_enter Try.func13, Try.ntmps13
  go_wp2
  go_ret
  refine ⟨?_, rfl⟩
  show Ending.returned (.int .i64 (1 + (r : Int) % 12)) = _
  congr 2

/-- A slice of operations that came in. -/
def ActsAt (w : World) (B : Nat) (A : Option Addr) (l : List Ac) : Prop :=
  ∀ (i : Nat) (a : Ac), l[i]? = some a → ∃ g off, A = some ⟨g, off, none⟩ ∧ g < B ∧ ∀ (j : Nat) (v : Value), a.cells[j]? = some v → w.cell? ⟨g, off + i * 6 + j, none⟩ = some v
theorem ActsAt.below {w w' : World} {B : Nat} {A : Option Addr} {l : List Ac} (h : ActsAt w B A l) (hb : Below B w w') : ActsAt w' B A l := fun i a hi => by
  obtain ⟨g, off, hA, hg, hc⟩ := h i a hi
  exact ⟨g, off, hA, hg, fun j v hv => (hb.cell (p := ⟨g, off + i * 6 + j, none⟩) hg).trans (hc j v hv)⟩
theorem ActsAt.at_ {w : World} {B : Nat} {A : Option Addr} {l : List Ac} (h : ActsAt w B A l) {i : Nat} {a : Ac} (hi : l[i]? = some a) :
    ∃ g off, A = some ⟨g, off, none⟩ ∧ g < B ∧ w.cell? ⟨g, off + i * 6, none⟩ = some (.int .i64 a.kind) ∧ w.cell? ⟨g, off + i * 6 + 1, none⟩ = some (.int .i64 a.sector) ∧ w.cell? ⟨g, off + i * 6 + 2, none⟩ = some (.int .i64 a.bytes) ∧
      w.cell? ⟨g, off + i * 6 + 3, none⟩ = some (.string a.text) ∧ w.cell? ⟨g, off + i * 6 + 4, none⟩ = some (.bool a.odd) ∧ w.cell? ⟨g, off + i * 6 + 5, none⟩ = some (.int .i64 a.after) := by
  obtain ⟨g, off, hA, hg, hc⟩ := h i a hi
  exact ⟨g, off, hA, hg, hc 0 _ rfl, hc 1 _ rfl, hc 2 _ rfl, hc 3 _ rfl, hc 4 _ rfl, hc 5 _ rfl⟩

def okB (l : List Ac) : Bool := l.all (fun a => decide (a.text.size ≤ 100)) && decide (l.length ≤ 60)

set_option maxHeartbeats 400000 in
theorem ok_any (w : World) (B : Nat) (A : Option Addr) (l : List Ac) (c : Nat) (h : ActsAt w B A l) (hl : l.length ≤ 9223372036854775807) :
    Calls Try.prog 11 #[.slice A l.length c] w fun e w' => e = .returned (.bool (okB l)) ∧ w = w' := by
  obtain ⟨r, hr⟩ : ∃ r, okB l = r := ⟨_, rfl⟩
  rw [hr]
  have HR := Lib.hid hr
  clear hr
  go_enter Try.func11, Try.ntmps11
  go_wp2_with fail
  go_loop [3] (fun v => ∃ k : Nat, k ≤ l.length ∧ v = .int .i64 (k : Int) ∧ ∀ a ∈ l.take k, a.text.size ≤ 100) (fun v => l.length - (intOf v).toNat)
  case atStart => exact ⟨0, Nat.zero_le _, rfl, fun a ha => by simp at ha⟩
  case round =>
    obtain ⟨k, hk, rfl, hall⟩ := hrel
    have HA := Lib.hid hall
    clear hall
    by_cases hlt : k < l.length
    · obtain ⟨a, ha⟩ : ∃ a, l[k]? = some a := ⟨_, List.getElem?_eq_getElem hlt⟩
      obtain ⟨g, off, hA, _, c0, c1, c2, c3, c4, c5⟩ := h.at_ ha
      subst hA
      have HX := Lib.hid ha
      clear ha
      by_cases ht : (100 : Int) < (a.text.size : Int)
      · go_wp2
        go_ret
        have : okB l = false := by
          unfold okB
          rw [Bool.and_eq_false_iff]
          left
          rw [List.all_eq_false]
          exact ⟨a, List.mem_of_getElem? HX.out, by simp; omega⟩
        rw [HR.out] at this
        subst this
        exact ⟨rfl, rfl⟩
      · go_wp2
        go_round
        case rel =>
          refine ⟨k + 1, by omega, by go_num, fun b hb => ?_⟩
          rw [List.take_succ_eq_append_getElem hlt] at hb
          rcases List.mem_append.1 hb with hb | hb
          · exact HA.out b hb
          · have : l[k] = a := by have := HX.out; rw [List.getElem?_eq_getElem hlt] at this; exact Option.some.inj this
            simp [this] at hb
            subst hb
            omega
        case measure => simp [intOf]; omega
    · obtain rfl : k = l.length := by omega
      go_wp2
      go_ret
      refine ⟨?_, rfl⟩
      have : okB l = decide ((l.length : Int) ≤ 60) := by
        unfold okB
        have h1 : l.all (fun a => decide (a.text.size ≤ 100)) = true := by
          rw [List.all_eq_true]
          intro a ha
          have := HA.out a (by rw [List.take_length]; exact ha)
          simpa using this
        rw [h1, Bool.true_and]
        congr 1
        apply propext
        omega
      rw [HR.out] at this
      subst this
      rfl
end Go.Proofs.Ytahkahmkoibmhaa
