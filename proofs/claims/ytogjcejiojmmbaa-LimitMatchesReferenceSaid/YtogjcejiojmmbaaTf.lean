/- open, Due: the last day of a limit. -/
import Derived.Test.YtogjcejiojmmbaaTe
import Derived.Test.YtogjcejiojmmbaaCEp
namespace Go.Proofs.Ytogjcejiojmmbaa
open Go.RowKit Go.Shelf

def openK (p : Int → Bool) (l : List Int) : Nat → Int → Int × Int
  | 0, _ => (0, 10)
  | k + 1, x => if (!p x && opB l x) = true then (x, 0) else openK p l k (x + 1)
/-- The first day from one on that is not paused and on which offices are open. -/
def openS (p : Int → Bool) (l : List Int) (x : Int) : Int × Int := openK p l (1000001 - x).toNat x
theorem openS_out {p : Int → Bool} {l : List Int} {x : Int} (h : 1000000 < x) : openS p l x = (0, 10) := by
  unfold openS
  rw [show (1000001 - x).toNat = 0 by omega]
  rfl
theorem openS_in {p : Int → Bool} {l : List Int} {x : Int} (h : x ≤ 1000000) : openS p l x = if (!p x && opB l x) = true then (x, 0) else openS p l (x + 1) := by
  unfold openS
  rw [show (1000001 - x).toNat = (1000001 - (x + 1)).toNat + 1 by omega]
  rfl

set_option maxHeartbeats 1000000 in
theorem open_l (w : World) (g : Nat) (f d : Int) (J : List Stp2) (h : ClockAt w g f J) (hl : J.length ≤ 60) (d0 : 0 ≤ d) (d1 : d ≤ 100000000) (B : Nat) (A : Option Addr) (l : List Int) (c : Nat) (hA : IntsAt w B A l) (hB : B ≤ w.heap.size) (hll : l.length ≤ 4611686018427387904) (hw : ∀ x ∈ l, wf64 x) :
    Calls Try.prog 30 #[.int .i64 d, .func (.func 32) #[.pointer (some ⟨g, 0, none⟩)] #[], .slice A l.length c] w fun e w' => e = .returned (.tuple #[.int .i64 (openS (anyS J) l d).1, .int .i64 (openS (anyS J) l d).2]) ∧ Below w.heap.size w w' := by
  have eg : ∀ args w, (callFunc 32 args).run Try.prog w = .ok (.enter 32 args) w := enters_of Try.func32 (by kernel_rfl) rfl
  obtain ⟨r1, r2, hr⟩ : ∃ r1 r2, openS (anyS J) l d = (r1, r2) := ⟨_, _, rfl⟩
  rw [hr]
  have HR := Lib.hid hr
  have HC := Lib.hid h
  have HA := Lib.hid hA
  have HW := Lib.hid hw
  clear hr h hA hw
  go_enter Try.func30, Try.ntmps30
  go_wp2_with fail
  go_loopw [0] (fun v wr => ∃ x : Int, d ≤ x ∧ (x ≤ 1000001 ∨ x = d) ∧ v = .int .i64 x ∧ Hid (openS (anyS J) l x = (r1, r2)) ∧ Below w.heap.size w wr) (fun v _ => (1000001 - intOf v).toNat)
  case atStart => exact ⟨d, Int.le_refl _, .inr rfl, rfl, HR, Below.refl _ _⟩
  case round =>
    obtain ⟨x, x0, x1, rfl, hx, hb⟩ := hrel
    by_cases hlt : x ≤ 1000000
    · have hin := openS_in (p := anyS J) (l := l) hlt
      rw [hx.out] at hin
      obtain ⟨A1, c1, hk, hs⟩ := HC.out
      have hcl : ClockAt wr g f J := ⟨A1, c1, hk.below hb hk.lt, (hs.below hb).wide hb.size⟩
      have hpa := paused_any wr g f x J hcl hl
      clear hk hs hcl hx
      cases hp : anyS J x with
      | true =>
        rw [hp] at hpa hin
        rw [if_neg (by simp)] at hin
        have HIN := Lib.hid hin.symm
        have HP := Lib.hid hpa
        clear hin hpa hp
        go_wp2_with fail
        refine HP.out.mono ?_
        rintro e w1 ⟨rfl, b⟩
        replace hb := Below.then hb b
        clear b HP
        go_wp2
        go_roundw
        case rel => exact ⟨x + 1, by omega, by omega, by go_num, HIN, hb⟩
        case measure => simp [intOf]; omega
      | false =>
        rw [hp] at hpa hin
        have HP := Lib.hid hpa
        have hwk := fun W b => work_any W B A l c (HA.out.below (Below.mono (Below.then hb b) hB)) (Nat.le_trans hB (Below.then hb b).size) hll HW.out x
        clear hpa hp
        cases ho : opB l x with
        | true =>
          rw [ho, if_pos (by rfl)] at hin
          rw [ho] at hwk
          have HIN := Lib.hid hin
          have HWK := Lib.hid hwk
          clear hin hwk ho
          go_wp2_with fail
          refine HP.out.mono ?_
          rintro e w1 ⟨rfl, b⟩
          go_wp2_with fail
          refine (HWK.out _ b).mono ?_
          rintro e w2 ⟨rfl, b2⟩
          replace hb := Below.then (Below.then hb b) b2
          have hrr := HIN.out
          injection hrr with h1 h2
          subst h1 h2
          clear b b2 HWK HP HIN
          go_wp2
          go_ret2
          exact ⟨rfl, hb⟩
        | false =>
          rw [ho, if_neg (by simp)] at hin
          rw [ho] at hwk
          have HIN := Lib.hid hin.symm
          have HWK := Lib.hid hwk
          clear hin hwk ho
          go_wp2_with fail
          refine HP.out.mono ?_
          rintro e w1 ⟨rfl, b⟩
          go_wp2_with fail
          refine (HWK.out _ b).mono ?_
          rintro e w2 ⟨rfl, b2⟩
          replace hb := Below.then (Below.then hb b) b2
          clear b b2 HWK HP
          go_wp2
          go_roundw
          case rel => exact ⟨x + 1, by omega, by omega, by go_num, HIN, hb⟩
          case measure => simp [intOf]; omega
    · have hout := openS_out (p := anyS J) (l := l) (x := x) (by omega)
      rw [hx.out] at hout
      injection hout with h1 h2
      subst h1 h2
      clear hx
      go_wp2
      go_ret2
      exact ⟨rfl, hb⟩

/-- What Due returns. -/
noncomputable def dueS (L : Lm) (l : List Int) : Int × Int :=
  if prB L = true then (if (addS l L.f L.n L.u).2 = 0 then openS (pzB L.f L.S) l (nthU (pzB L.f L.S) L.f ((addS l L.f L.n L.u).1 - L.f).toNat) else (0, (addS l L.f L.n L.u).2)) else (0, 1)
theorem pz_far {f : Int} {S : List Stp2} (hS : ∀ s ∈ S, psB s = true) : ∀ x, 1000000 ≤ x → pzB f S x = false := fun x hx => by
  cases h : pzB f S x with
  | false => rfl
  | true =>
    obtain ⟨_, s, hs, h1, h2⟩ := pzB_iff.1 h
    have := psB_iff.1 (hS s hs)
    omega

/-- The end of a term is not before its beginning. -/
theorem add_ge {l : List Int} {d n u : Int} (h : (addS l d n u).2 = 0) : d ≤ (addS l d n u).1 ∧ isB (addS l d n u).1 = true ∧ opB l (addS l d n u).1 = true := by
  obtain ⟨hd, u1, u2, n0, n1, -, p, hp, hpb, he, heb⟩ := addS_ok h
  have hpe := fromS_le l p
  have hpd : d ≤ p := by
    unfold stepS at hp
    split at hp
    · injection hp with hp _; omega
    · split at hp
      · injection hp with hp _; omega
      · split at hp
        · obtain ⟨hv, hnum⟩ := ymd_of hd
          have := monS_ge hv n0 (by rw [hp])
          rw [hp, hnum] at this
          exact this
        · split at hp
          · obtain ⟨hv, hnum⟩ := ymd_of hd
            have := monS_ge (n := 12 * n) hv (by omega) (by rw [hp])
            rw [hp, hnum] at this
            exact this
          · injection hp with hp _
            rw [← hp]
            exact nthS_le l d _
  rw [he]
  exact ⟨by omega, heb, fromS_op l heb⟩

theorem aftJ_bd (n : Int) : ∀ (J : List Stp2) (d : Int), (∀ s ∈ J, s.1 < s.2 ∧ s.2 - s.1 ≤ 1000000) → d ≤ aftJ n J d ∧ aftJ n J d ≤ d + 1000000 * (J.length : Int)
  | [], d, _ => ⟨Int.le_refl _, by show d ≤ d + 1000000 * ((0 : Nat) : Int); omega⟩
  | s :: J, d, h => by
    obtain ⟨h1, h2⟩ := h s (by simp)
    have ih := aftJ_bd n J (if s.1 ≤ d ∧ 0 < n then d + (s.2 - s.1) else d) (fun t ht => h t (by simp [ht]))
    show d ≤ aftJ n J (if s.1 ≤ d ∧ 0 < n then d + (s.2 - s.1) else d) ∧ aftJ n J (if s.1 ≤ d ∧ 0 < n then d + (s.2 - s.1) else d) ≤ _
    rw [List.length_cons]
    split at ih <;> rename_i hc
    · rw [if_pos hc]; omega
    · rw [if_neg hc]; omega
end Go.Proofs.Ytogjcejiojmmbaa
