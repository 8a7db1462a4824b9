/- Names, as plain lists of bytes; the small functions of package limit. -/
import Derived.Test.YtgfahifdmacmhaaGreatDoorProg
import Derived.Test.YtgfahifdmacmhaaGreatDoorQz
import Derived.Test.YtgfahifdmacmhaaGreatDoorTp
import Derived.StillTailTactics
import Derived.IntWalk
namespace Go.Proofs.YtgfahifdmacmhaaGreatDoor
open Go.RowKit

def letB (c : UInt8) : Bool := decide (97 ≤ c.toNat ∧ c.toNat ≤ 122) || decide (65 ≤ c.toNat ∧ c.toNat ≤ 90)
def digB (c : UInt8) : Bool := decide (48 ≤ c.toNat ∧ c.toNat ≤ 57) || decide (c.toNat = 95)
def okAt (i : Nat) (c : UInt8) : Bool := letB c || (decide (0 < i) && digB c)
def nmGo : Nat → List UInt8 → Bool
  | _, [] => true
  | i, c :: cs => okAt i c && nmGo (i + 1) cs
/-- Whether a text is a name. -/
def nmB (l : List UInt8) : Bool := nmGo 0 l && (!l.isEmpty && decide (l.length ≤ 24))
theorem nmGo_app : ∀ (a b : List UInt8) (i : Nat), nmGo i (a ++ b) = (nmGo i a && nmGo (i + a.length) b)
  | [], b, i => by simp [nmGo]
  | c :: a, b, i => by
    show (okAt i c && nmGo (i + 1) (a ++ b)) = ((okAt i c && nmGo (i + 1) a) && nmGo (i + (a.length + 1)) b)
    rw [nmGo_app a b (i + 1), Bool.and_assoc, show i + 1 + a.length = i + (a.length + 1) by omega]
theorem nmGo_at {l : List UInt8} {k : Nat} {c : UInt8} (h : l[k]? = some c) : nmGo 0 (l.take (k + 1)) = (nmGo 0 (l.take k) && okAt k c) := by
  obtain ⟨hk, hc⟩ := List.getElem?_eq_some_iff.1 h
  rw [List.take_succ_eq_append_getElem hk, hc, nmGo_app]
  have : (l.take k).length = k := by rw [List.length_take]; omega
  rw [this]
  show (_ && (okAt (0 + k) c && true)) = _
  rw [Bool.and_true, Nat.zero_add]
theorem nmGo_no {l : List UInt8} {k : Nat} {c : UInt8} (h : l[k]? = some c) (hc : okAt k c = false) : nmGo 0 l = false := by
  have h1 := nmGo_at h
  have h2 := nmGo_app (l.take (k + 1)) (l.drop (k + 1)) 0
  rw [List.take_append_drop] at h2
  rw [h2, h1, hc, Bool.and_false, Bool.false_and]

set_option maxHeartbeats 1000000 in
theorem isName_any (w : World) (s : ByteArray) (hs : s.size ≤ 9223372036854775807) : Calls Tryz.prog 131 #[.string s] w fun e w' => e = .returned (.bool (nmB s.data.toList)) ∧ w = w' := by
  have hsz : s.data.toList.length = s.size := rfl
  have HL := Lib.hid hsz
  clear hsz
  obtain ⟨r, hr⟩ : ∃ r, r = nmB s.data.toList := ⟨_, rfl⟩
  rw [← hr]
  have HR := Lib.hid hr
  clear hr
  go_enter Tryz.func131, Tryz.ntmps131
  go_wp2_with fail
  go_loop [9] (fun i => ∃ k : Nat, k ≤ s.size ∧ i = .int .i64 (k : Int) ∧ Hid (nmGo 0 (s.data.toList.take k) = true)) (fun i => s.size - (intOf i).toNat)
  case atStart => exact ⟨0, Nat.zero_le _, rfl, Lib.hid rfl⟩
  case round =>
    obtain ⟨k, hk, rfl, hn⟩ := hrel
    by_cases hlt : k < s.size
    · obtain ⟨c, hc⟩ : ∃ c, s.data.toList[k]? = some c := ⟨_, List.getElem?_eq_getElem (by rw [HL.out]; exact hlt)⟩
      have hget : s[k] = c := by
        obtain ⟨h1, h2⟩ := List.getElem?_eq_some_iff.1 hc
        rw [← h2]
        rfl
      have HC := Lib.hid hc
      clear hc
      have h255 := c.toNat_lt
      have hcl : (c.toNat ≤ 47 ∨ (58 ≤ c.toNat ∧ c.toNat ≤ 64) ∨ (91 ≤ c.toNat ∧ c.toNat ≤ 94) ∨ c.toNat = 96 ∨ 123 ≤ c.toNat) ∨ ((48 ≤ c.toNat ∧ c.toNat ≤ 57) ∨ c.toNat = 95) ∨ (65 ≤ c.toNat ∧ c.toNat ≤ 90) ∨ (97 ≤ c.toNat ∧ c.toNat ≤ 122) := by omega
      rcases hcl with hcl | hcl | hcl
      · have hok : okAt k c = false := by simp [okAt, letB, digB]; omega
        have e95 : ((c.toNat : Int) == 95) = false := by simp; omega
        have hno := nmGo_no HC.out hok
        have e : nmB s.data.toList = false := by unfold nmB; rw [hno]; rfl
        have HE := Lib.hid (HR.out.trans e)
        clear e hno hok HC
        have hk0 : ((k : Int) == 0) = true ∨ ((k : Int) == 0) = false := by cases ((k : Int) == 0) <;> simp
        rcases hk0 with e0 | e0 <;> rcases hcl with h | h | h | h | h <;> cases d57 : decide ((c.toNat : Int) ≤ 57) <;> cases d90 : decide ((c.toNat : Int) ≤ 90) <;> cases d122 : decide ((c.toNat : Int) ≤ 122)
        all_goals first
          | (exfalso; simp at d57 d90 d122; omega)
          | (go_wp2; go_ret; exact ⟨by rw [HE.out]; rfl, rfl⟩)
      · cases h0 : decide (0 < k) with
        | false =>
          have hk0 : k = 0 := by simpa using h0
          have hok : okAt k c = false := by
            subst hk0
            simp [okAt, letB, digB]; omega
          have e0 : ((k : Int) == 0) = true := by simpa using hk0
          have hno := nmGo_no HC.out hok
          have e : nmB s.data.toList = false := by unfold nmB; rw [hno]; rfl
          have HE := Lib.hid (HR.out.trans e)
          clear e hno hok HC hk0 h0
          rcases hcl with h | h
          · cases e95 : ((c.toNat : Int) == 95) with
            | true => exfalso; simp at e95; omega
            | false =>
              go_wp2
              go_ret
              exact ⟨by rw [HE.out]; rfl, rfl⟩
          · have e95 : ((c.toNat : Int) == 95) = true := by simp; omega
            go_wp2
            go_ret
            exact ⟨by rw [HE.out]; rfl, rfl⟩
        | true =>
          have hk0 : 0 < k := by simpa using h0
          have hok : okAt k c = true := by
            simp [okAt, letB, digB]; omega
          have e0 : ((k : Int) == 0) = false := by simp; omega
          have hnx : nmGo 0 (s.data.toList.take (k + 1)) = true := by rw [nmGo_at HC.out, hn.out, hok]; rfl
          have HX := Lib.hid hnx
          clear hnx hok h0
          rcases hcl with h | h
          · have d57 : decide ((c.toNat : Int) ≤ 57) = true := by simp; omega
            go_wp2
            go_round
            case rel => exact ⟨k + 1, by omega, by go_num, HX⟩
            case measure => simp [intOf]; omega
          · have e95 : ((c.toNat : Int) == 95) = true := by simp; omega
            go_wp2
            go_round
            case rel => exact ⟨k + 1, by omega, by go_num, HX⟩
            case measure => simp [intOf]; omega
      · have hok : okAt k c = true := by simp [okAt, letB, digB]; omega
        have e95 : ((c.toNat : Int) == 95) = false := by simp; omega
        have hnx : nmGo 0 (s.data.toList.take (k + 1)) = true := by rw [nmGo_at HC.out, hn.out, hok]; rfl
        have HX := Lib.hid hnx
        clear hnx hok
        rcases hcl with h | h <;> cases d57 : decide ((c.toNat : Int) ≤ 57) <;> cases d90 : decide ((c.toNat : Int) ≤ 90) <;> cases d122 : decide ((c.toNat : Int) ≤ 122)
        all_goals try (exfalso; simp at d57 d90 d122; omega)
        all_goals
          go_wp2
          go_round
          case rel => exact ⟨k + 1, by omega, by go_num, HX⟩
          case measure => simp [intOf]; omega
    · obtain rfl : k = s.size := by omega
      have hn2 : nmGo 0 s.data.toList = true := by have := hn.out; rwa [List.take_of_length_le (by rw [HL.out]; exact Nat.le_refl _)] at this
      have e : nmB s.data.toList = (!s.toList.isEmpty && decide ((s.size : Int) ≤ 24)) := by
        unfold nmB
        rw [hn2, Bool.true_and, HL.out, ByteArray.toList_eq]
        congr 1
        rw [decide_eq_decide]
        omega
      cases he : s.toList.isEmpty with
      | true =>
        have hz : s.toList = [] := by simpa using he
        rw [he] at e
        have HE := Lib.hid (HR.out.trans e)
        clear e hn2 hn
        go_wp2
        go_ret
        exact ⟨by rw [HE.out]; rfl, rfl⟩
      | false =>
        have hz : ¬ s.toList = [] := by simpa using he
        rw [he] at e
        have HE := Lib.hid (HR.out.trans e)
        clear e hn2 hn
        go_wp2
        go_ret
        exact ⟨by rw [HE.out]; rfl, rfl⟩
end Go.Proofs.YtgfahifdmacmhaaGreatDoor
