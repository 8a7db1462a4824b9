/- A journal in memory; Records, ContainsFunc. -/
import Derived.Test.YtfjejfgdnjnflaaGreatDoorJn
namespace Go.Proofs.YtfjejfgdnjnflaaGreatDoor
open Go.RowKit Go.Shelf

theorem clone_any (w : World) (base : Nat) (A : Option Addr) (c : Nat) (l : List (List UInt8)) (h : OwnStrs w base (.slice A l.length c) l) (hl : l.length ≤ 1000000) :
    Calls Tryz.prog 43 #[.slice A l.length c] w fun e w' => ∃ v, e = .returned v ∧ OwnStrs w' w.heap.size v l ∧ Below w.heap.size w w' := by
  by_cases h0 : l.length = 0
  · have hl0 : l = [] := List.length_eq_zero_iff.1 h0
    subst hl0
    cases A with
    | none => exact (sh_slices_Clone_string_nil 0 c w).mono (by rintro e w' ⟨rfl, rfl⟩; exact ⟨_, rfl, OwnStrs.nil _ _, Below.refl _ _⟩)
    | some a => exact (sh_slices_Clone_string_zero a c w).mono (by rintro e w' ⟨v, rfl, ho, _, hb⟩; exact ⟨v, rfl, ho, hb⟩)
  · obtain ⟨A', c', hv, hs, _⟩ := h.at
    obtain ⟨rfl, _, rfl⟩ : A = A' ∧ l.length = l.length ∧ c = c' := by simpa using hv
    obtain ⟨g, off, rfl, _⟩ := hs 0 (l[0]'(by omega)) (List.getElem?_eq_getElem (by omega))
    have hmap : (List.take l.length (l.map bs)).map Value.string = l.map sv := by
      rw [List.take_of_length_le (by simp), List.map_map]; rfl
    have := sh_slices_Clone_string g off l.length c (l.map bs) w (by simp) (by omega) (fun j hj => by
      simp only [List.length_map] at hj
      obtain ⟨g', off', hA, _, hc⟩ := hs j l[j] (List.getElem?_eq_getElem hj)
      obtain ⟨rfl, rfl⟩ : g = g' ∧ off = off' := by simpa using hA
      rw [hc]
      simp [List.getD, hj])
    rw [hmap] at this
    exact this.mono (by rintro e w' ⟨v, rfl, ho, _, hb⟩; exact ⟨v, rfl, ho, hb⟩)

set_option maxRecDepth 100000 in
theorem records_any (w : World) (base a j : Nat) (J : Foot) (x : Jn) (h : JAt w base a j J x) (hl : x.rs.length ≤ 1000000) :
    Calls Tryz.prog 9 #[.pointer (some ⟨j, 0, none⟩)] w fun e w' => ∃ v, e = .returned v ∧ OwnStrs w' w.heap.size v x.rs ∧ Below w.heap.size w w' := by
  obtain ⟨A, c, hb, ho, _, _⟩ := h
  obtain ⟨x0, x1, x2⟩ := hb.all
  obtain ⟨n, cnt, rs, br⟩ := x
  simp only at *
  have hc := Lib.hid (clone_any w base A c rs ho hl)
  clear ho
  go_enter Tryz.func9, Tryz.ntmps9
  go_wp2_with fail
  refine hc.out.mono ?_
  rintro e w3 ⟨v, rfl, ho3, hb3⟩
  go_wp2
  go_ret
  exact ⟨_, rfl, ho3, hb3⟩

theorem long_any (w : World) (s : List UInt8) : Calls Tryz.prog 46 #[.string (bs s)] w fun e w' => e = .returned (.bool (decide (20000 < s.length))) ∧ w' = w := by
  have h1 := bs_size s
  go_enter Tryz.func46, Tryz.ntmps46
  go_wp2
  go_ret
  refine ⟨?_, rfl⟩
  congr 2
  simp
  omega
end Go.Proofs.YtfjejfgdnjnflaaGreatDoor
