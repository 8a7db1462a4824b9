/- In, Light, none. -/
import Derived.Test.YtfblngdmeliabaaDoorCi
import Derived.Deep.DeepCutAuto
import Derived.Deep.CutBlock
namespace Go.Proofs.YtfblngdmeliabaaDoor
open Go.RowKit

theorem in_any (w : World) (B : Nat) (A : Option Addr) (l : List Int) (c : Nat) (h : IntsAt w B A l) (hl : l.length ≤ 4611686018427387904) (n : Int) :
    Calls Tryd.prog 18 #[.slice A l.length c, .int .i64 n] w fun e w' => e = .returned (.bool (decide (n ∈ l))) ∧ w = w' := by
  go_enter Tryd.func18, Tryd.ntmps18
  go_wp2_with fail
  go_loopw [5] (fun i wr => wr = w ∧ ∃ k : Nat, k ≤ l.length ∧ i = .int .i64 (k : Int) ∧ n ∉ l.take k) (fun i _ => l.length - (intOf i).toNat)
  case atStart => exact ⟨rfl, 0, Nat.zero_le _, rfl, by simp⟩
  case round =>
    obtain ⟨rfl, k, hk, rfl, hni⟩ := hrel
    by_cases hlt : k < l.length
    · obtain ⟨x, hx⟩ : ∃ x, l[k]? = some x := ⟨_, List.getElem?_eq_getElem hlt⟩
      obtain ⟨g, off, hA, hg, hc⟩ := h k x hx
      subst hA
      have HX := Lib.hid hx
      have HN := Lib.hid hni
      clear hx hni
      by_cases hxn : x = n
      · subst hxn
        go_wp2
        go_ret
        have hm : decide (x ∈ l) = true := decide_eq_true (List.mem_of_getElem? HX.out)
        exact ⟨by rw [hm]; rfl, rfl⟩
      · have hb : (x == n) = false := by simpa using hxn
        have HXN := Lib.hid hxn
        clear hxn
        go_wp2
        go_roundw
        case rel =>
          refine ⟨by first | trivial | rfl, k + 1, by omega, by go_num, ?_⟩
          obtain ⟨hk', hx'⟩ := List.getElem?_eq_some_iff.1 HX.out
          rw [List.take_succ_eq_append_getElem hk', hx', List.mem_append]
          rintro (h1 | h1)
          · exact HN.out h1
          · simp at h1; exact HXN.out h1.symm
        case measure => simp [intOf]; omega
    · obtain rfl : k = l.length := by omega
      rw [List.take_length] at hni
      have HN := Lib.hid hni
      clear hni
      go_wp2
      go_ret
      exact ⟨by rw [decide_eq_false HN.out]; rfl, rfl⟩

def ltB (n u : Int) (len : Nat) : Bool := decide (u = 5 → n ≤ 3000) && decide ((len : Int) ≤ 60)
theorem light_any (w : World) (n u : Int) (A : Option Addr) (len c : Nat) (_hl : len ≤ 9223372036854775807) :
    Calls Tryd.prog 19 #[.agg #[.int .i64 n, .int .i64 u], .slice A len c, .int .i64 60] w fun e w' => e = .returned (.bool (ltB n u len)) ∧ Below w.heap.size w w' := by
  by_cases h1 : u = 5
  · subst h1
    have hb := (Below.refl w.heap.size w).alloc (Nat.le_refl _) (.cells #[.int .i64 n, .int .i64 5] 29)
    by_cases h2 : n ≤ 3000
    · have e : ltB n 5 len = decide ((len : Int) ≤ 60) := by unfold ltB; rw [decide_eq_true (fun _ => h2)]; rfl
      rw [e]
      go_enter Tryd.func19, Tryd.ntmps19
      go_wp2
      go_ret
      exact ⟨rfl, hb⟩
    · have e : ltB n 5 len = false := by unfold ltB; rw [decide_eq_false (fun h => h2 (h rfl))]; rfl
      have h2' : 3000 < n := by omega
      clear h2
      rw [e]
      go_enter Tryd.func19, Tryd.ntmps19
      go_wp2
      go_ret
      exact ⟨rfl, hb⟩
  · have hb := (Below.refl w.heap.size w).alloc (Nat.le_refl _) (.cells #[.int .i64 n, .int .i64 u] 29)
    have hu : (u != 5) = true := by simpa using h1
    have e : ltB n u len = decide ((len : Int) ≤ 60) := by unfold ltB; rw [decide_eq_true (fun h => absurd h h1)]; rfl
    rw [e]
    go_enter Tryd.func19, Tryd.ntmps19
    go_wp2
    go_ret
    exact ⟨rfl, hb⟩

/-- none: whether offices are open on no day from a to before b. -/
theorem none_any (w : World) (B : Nat) (A : Option Addr) (l : List Int) (c : Nat) (h : IntsAt w B A l) (hB : B ≤ w.heap.size) (hl : l.length ≤ 4611686018427387904) (hw : ∀ x ∈ l, wf64 x) (a b : Int) (hab : a ≤ b) (ha : wf64 a) (hb : wf64 b)
    (hno : ∀ i, a ≤ i → i < b → opB l i = false) :
    Calls Tryd.prog 20 #[.int .i64 a, .int .i64 b, .slice A l.length c] w fun e w' => e = .returned (.bool true) ∧ Below w.heap.size w w' := by
  have HN := Lib.hid hno
  obtain ⟨a1, a2⟩ := ha
  obtain ⟨b1, b2⟩ := hb
  have HW := Lib.hid hw
  clear hno hw
  go_enter Tryd.func20, Tryd.ntmps20
  go_wp2_with fail
  go_loopw [7] (fun v wr => ∃ i : Int, a ≤ i ∧ i ≤ b ∧ v = .int .i64 i ∧ Below w.heap.size w wr) (fun v _ => (b - intOf v).toNat)
  case atStart => exact ⟨a, Int.le_refl _, hab, rfl, Below.refl _ _⟩
  case round =>
    obtain ⟨i, h1, h2, rfl, hbw⟩ := hrel
    by_cases hlt : i < b
    · go_wp2_with fail
      have hwk := work_any wr B A l c (h.below (hbw.mono hB)) (Nat.le_trans hB hbw.size) hl HW.out i
      rw [HN.out i h1 hlt] at hwk
      refine hwk.mono ?_
      rintro e w2 ⟨rfl, hb2⟩
      replace hbw := Below.then hbw hb2
      clear hwk hb2
      go_wp2
      go_roundw
      case rel => exact ⟨i + 1, by omega, by omega, by go_num, hbw⟩
      case measure => simp [intOf]; omega
    · obtain rfl : i = b := by omega
      go_wp2
      go_ret
      exact ⟨rfl, hbw⟩
end Go.Proofs.YtfblngdmeliabaaDoor
