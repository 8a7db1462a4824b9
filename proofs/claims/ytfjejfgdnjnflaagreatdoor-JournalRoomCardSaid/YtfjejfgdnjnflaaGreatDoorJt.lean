/- A journal in memory; ContainsFunc. -/
import Derived.Test.YtfjejfgdnjnflaaGreatDoorJo
namespace Go.Proofs.YtfjejfgdnjnflaaGreatDoor
open Go.RowKit Go.Shelf

set_option maxRecDepth 100000 in
set_option maxHeartbeats 4000000 in
theorem index_any (w : World) (G : Foot) (A : Option Addr) (c : Nat) (l : List (List UInt8)) (hs : StrsIn w G A l) (hl : l.length ≤ 1000000) :
    Calls Tryz.prog 79 #[.slice A l.length c, .func (Fn.func 46) #[] #[]] w fun e w' => (∃ i : Int, e = .returned (.int .i64 i) ∧ (0 ≤ i ↔ l.any (fun r => decide (20000 < r.length)) = true) ∧ -1 ≤ i ∧ i ≤ 1000000) ∧ w' = w := by
  have HS := Lib.hid hs
  clear hs
  go_enter Tryz.func79, Tryz.ntmps79
  go_wp2_with fail
  go_loopw [8] (fun i wr => ∃ (k : Nat), k ≤ l.length ∧ i = .int .i64 (k : Int) ∧ w = wr ∧ ∀ r ∈ l.take k, r.length ≤ 20000) (fun i _ => l.length - (intOf i).toNat)
  case atStart => exact ⟨0, Nat.zero_le _, rfl, rfl, fun r hr => by simp at hr⟩
  case round =>
    obtain ⟨k, hkl, rfl, rfl, hk⟩ := hrel
    have HK := Lib.hid hk
    clear hk
    by_cases hlt : k < l.length
    · obtain ⟨s, hss⟩ : ∃ s, l[k]? = some s := ⟨_, List.getElem?_eq_getElem hlt⟩
      obtain ⟨g, off, hA, hg, hc⟩ := HS.out k s hss
      subst hA
      have hi0 : (0 : Int) ≤ (k : Int) := by omega
      have hi1 : (k : Int) < (l.length : Int) := by omega
      have hL := long_any w s
      have HSS := Lib.hid hss
      clear hss
      by_cases hz : 20000 < s.length
      · rw [show decide (20000 < s.length) = true by simpa using hz] at hL
        have HL := Lib.hid hL
        have HZ := Lib.hid hz
        clear hL hz
        go_wp2_with (go_at_call 46; refine HL.out.mono ?_; rintro e w3 ⟨rfl, rfl⟩)
        go_ret
        refine ⟨⟨_, rfl, ⟨fun _ => ?_, fun _ => by omega⟩, by omega, by omega⟩, rfl⟩
        exact List.any_eq_true.2 ⟨s, List.mem_of_getElem? HSS.out, by simpa using HZ.out⟩
      · rw [show decide (20000 < s.length) = false by simpa using hz] at hL
        have HL := Lib.hid hL
        have HZ := Lib.hid hz
        clear hL hz
        go_wp2_with (go_at_call 46; refine HL.out.mono ?_; rintro e w3 ⟨rfl, rfl⟩)
        go_roundw
        case rel =>
          refine ⟨k + 1, by omega, by go_num, by trivial, fun r hr => ?_⟩
          rw [List.take_add_one, HSS.out] at hr
          rcases List.mem_append.1 hr with hr | hr
          · exact HK.out r hr
          · obtain rfl : r = s := by simpa using hr
            have := HZ.out
            omega
        case measure => simp [intOf]; omega
    · obtain rfl : k = l.length := by omega
      go_wp2
      go_ret
      refine ⟨⟨_, rfl, ⟨fun h => absurd h (by decide), fun h => ?_⟩, by decide, by decide⟩, rfl⟩
      obtain ⟨r, hr, h2⟩ := List.any_eq_true.1 h
      have h3 := HK.out r (by rw [List.take_length]; exact hr)
      have h4 : 20000 < r.length := by simpa using h2
      omega

set_option maxRecDepth 100000 in
theorem contains_any (w : World) (G : Foot) (A : Option Addr) (c : Nat) (l : List (List UInt8)) (hs : StrsIn w G A l) (hl : l.length ≤ 1000000) :
    Calls Tryz.prog 45 #[.slice A l.length c, .func (Fn.func 46) #[] #[]] w fun e w' => e = .returned (.bool (l.any (fun r => decide (20000 < r.length)))) ∧ w' = w := by
  have HI := Lib.hid (index_any w G A c l hs hl)
  clear hs
  go_enter Tryz.func45, Tryz.ntmps45
  go_wp2_with fail
  refine HI.out.mono ?_
  rintro e w3 ⟨⟨i, rfl, hi, hi1, hi2⟩, rfl⟩
  have HH := Lib.hid hi
  clear hi
  go_wp2
  go_ret
  have e : decide (0 ≤ i) = l.any (fun r => decide (20000 < r.length)) := by
    rw [Bool.eq_iff_iff, ← HH.out]
    simp
  rw [← e]
  exact ⟨rfl, rfl⟩
end Go.Proofs.YtfjejfgdnjnflaaGreatDoor
