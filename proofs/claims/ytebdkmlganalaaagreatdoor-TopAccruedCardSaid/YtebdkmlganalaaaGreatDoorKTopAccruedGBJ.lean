/- Reading an argument: a slice of ints. Plain laws of Add: the end is an open day, not before the beginning; how many open days lie between; a term as an argument. open, Due: the last day of a limit. The walk of Due. The walk of Left. Pause: XTy has it. -/
import Derived.Test.YtebdkmlganalaaaGreatDoorKTopAccruedGBI
import Derived.Test.YtebdkmlganalaaaGreatDoorKTopAccruedGAB
import Derived.Test.YtebdkmlganalaaaGreatDoorKTopAccruedGAE
import Derived.Test.YtebdkmlganalaaaGreatDoorKTopAccruedTy
namespace Go.Proofs.YtebdkmlganalaaaGreatDoor
open Go.RowKit Go.ChangeShapes Go.WideShapes Go.Deep

/-- What a slice of ints at an argument gives. -/
def Ints (w : World) (B : Nat) (A : Option Addr) (l : List Int) : Prop := IntsAt w B A l ∧ (∀ x ∈ l, wf64 x) ∧ l.length ≤ 9223372036854775807

theorem ints_of {H : Type} {enc : TypeId × Value → H} {w : World} {base : Nat} {spare : Nat → Bool} {held : Bool} {fuel len cap : Nat} {A : Option Addr} {x : DataW H × List MemPlace}
    (h : DataW.trod enc Tryz.prog w base spare held fuel 22 [.slice A len cap] = some x) : ∃ l : List Int, l.length = len ∧ Ints w w.heap.size A l := by
  have ht := Tryz.underlying22
  have he := Tryz.underlying3
  have c1 : Tryz.prog.cellsOf 3 = 1 := by kernel_rfl
  have key : ∀ i, i < len → ∃ v : Int, (∃ g off, A = some ⟨g, off, none⟩ ∧ g < w.heap.size ∧ w.cell? ⟨g, off + i, none⟩ = some (.int .i64 v)) ∧ wf64 v := by
    intro i hi
    rcases open_slice ht h with ⟨h0, _⟩ | ⟨a, len', cap', m, n, D, Pl, hcs, hb, hl, hm, hmm, hx, hall⟩
    · injection h0 with h0
      injection h0 with _ h1 _
      omega
    · injection hcs with hcs _
      injection hcs with hA hle hca
      subst hA hle hca
      have cell : ∀ i, i < len → ∃ v : Int, w.cell? (a.add i) = some (.int .i64 v) ∧ (Lit.int .i64 v).wf = true := by
        intro i hi
        obtain ⟨cs', hc, ht'⟩ := hall i (by rw [hmm]; split <;> omega)
        rw [c1, Nat.mul_one] at hc
        obtain ⟨v, rfl, -, hw⟩ := DataW.trod_int he ht'
        obtain ⟨_, _, hat⟩ := World.cells?_some hc
        have := hat 0 (by omega)
        rw [add_of_add, Nat.add_zero] at this
        exact ⟨v, by rw [this]; rfl, hw⟩
      obtain ⟨v0, hv0, -⟩ := cell 0 (by omega)
      obtain ⟨v, hv, hw⟩ := cell i hi
      have ha := spot_none hv0
      have ha0 : a.add 0 = a := by obtain ⟨b, o, s⟩ := a; simp [Addr.add]
      rw [ha0, Nat.add_zero] at ha
      have hai := spot_none hv
      rw [hai] at hv
      refine ⟨v, ⟨a.block, a.off, by rw [← ha], World.block_lt_of_cell? w ⟨a.block, a.off + i, none⟩ hv, hv⟩, wf64_lit.1 hw⟩
  obtain ⟨l, hl, hp⟩ := list_of len key
  have hlen : len ≤ 9223372036854775807 := by
    rcases open_slice ht h with ⟨h0, _⟩ | ⟨a, len', cap', m, n, D, Pl, hcs, hb, hl, hm, hmm, hx, hall⟩
    · injection h0 with h0
      injection h0 with _ h1 _
      omega
    · injection hcs with hcs _
      injection hcs with hA hle hca
      subst hA hle hca
      unfold maxLen at hm
      omega
  refine ⟨l, hl, fun i v hi => (hp i v hi).1, fun x hx => ?_, by omega⟩
  obtain ⟨i, hi⟩ := List.getElem?_of_mem hx
  exact (hp i x hi).2
theorem ints_at {H : Type} {enc : TypeId × Value → H} {w : World} {base : Nat} {spare : Nat → Bool} {held : Bool} {len cap : Nat} {A : Option Addr} {d : DataW H} {p : List MemPlace}
    (h : DataW.Trod enc Tryz.prog w base spare held 22 (.slice A len cap) d p) : ∃ l : List Int, l.length = len ∧ Ints w w.heap.size A l := by
  obtain ⟨m, hm⟩ := h
  exact ints_of hm
end Go.Proofs.YtebdkmlganalaaaGreatDoor

namespace Go.Proofs.YtebdkmlganalaaaGreatDoor
open Go.RowKit

set_option maxRecDepth 100000 in
/-- A term as an argument: two ints. -/
theorem term_at {H : Type} {enc : TypeId × Value → H} {w : World} {base : Nat} {spare : Nat → Bool} {held : Bool} {v : Value} {d : DataW H} {p : List MemPlace} {cs : Array Value}
    (hv : v = .agg cs) (hsz : cs.size = Tryz.prog.cellsOf 63)
    (h : DataW.Trod enc Tryz.prog w base spare held 63 v d p) : ∃ x : Int × Int, v = .agg #[.int .i64 x.1, .int .i64 x.2] := by
  subst hv
  have h2 : Tryz.prog.cellsOf 63 = 2 := by kernel_rfl
  rw [h2] at hsz
  obtain ⟨fuel, hf⟩ := h
  have hc : (Value.agg cs).cells.toList = cs.toList := rfl
  rw [hc] at hf
  obtain ⟨c0, c1, hcs⟩ : ∃ c0 c1, cs = #[c0, c1] := by
    obtain ⟨l⟩ := cs
    match l, hsz with
    | [c0, c1], _ => exact ⟨c0, c1, rfl⟩
  subst hcs
  obtain ⟨xs, n, _, hx, hl, hlen, hfl⟩ := DataW.trod_struct Tryz.underlying63 hf
  have g : ∀ i, i < xs.length → ∃ y, xs[i]? = some y := fun i hi => ⟨_, List.getElem?_eq_getElem hi⟩
  have hlen2 : xs.length = 2 := hlen
  obtain ⟨y0, e0⟩ := g 0 (by omega)
  obtain ⟨y1, e1⟩ := g 1 (by omega)
  have t0 := (hfl 0 _ rfl).trans e0
  have t1 := (hfl 1 _ rfl).trans e1
  obtain ⟨k0, h0, _, _⟩ := DataW.trod_int Tryz.underlying3 t0
  obtain ⟨k1, h1, _, _⟩ := DataW.trod_int Tryz.underlying3 t1
  have q0 : c0 = .int .i64 k0 := by injection h0
  have q1 : c1 = .int .i64 k1 := by injection h1
  exact ⟨(k0, k1), by rw [q0, q1]⟩

theorem addS_err {l : List Int} {day n u : Int} (h : (addS l day n u).2 ≠ 0) : (addS l day n u).1 = 0 := by
  unfold addS endS at h ⊢
  split
  · rfl
  · split
    · rfl
    · split
      · split
        · rename_i h1 h2 h3 h4
          rw [if_neg h1, if_neg h2, if_pos h3, if_pos h4] at h
          exact absurd rfl h
        · rfl
      · rfl

/-- What an Add without an error has done. -/
theorem addS_ok {l : List Int} {day n u : Int} (h : (addS l day n u).2 = 0) :
    isB day = true ∧ 1 ≤ u ∧ u ≤ 5 ∧ 0 ≤ n ∧ n ≤ 1000000 ∧ l.length ≤ 1000 ∧ ∃ p, stepS l day n u (ymd day).1 (ymd day).2.1 (ymd day).2.2 = (p, 0) ∧ isB p = true ∧ (addS l day n u).1 = fromS l p ∧ isB (fromS l p) = true := by
  unfold addS at h ⊢
  split at h
  · cases h
  · rename_i h1
    split at h
    · cases h
    · rename_i h2
      rw [if_neg h1, if_neg h2]
      have hd : isB day = true := by
        cases hh : isB day
        · exact absurd (.inl hh) h1
        · rfl
      refine ⟨hd, by omega, by omega, by omega, by omega, by omega, ?_⟩
      unfold endS at h ⊢
      split at h
      · rename_i h3
        split at h
        · rename_i h4
          rw [if_pos h3, if_pos h4]
          exact ⟨_, Prod.ext rfl h3.1, h3.2, rfl, h4⟩
        · cases h
      · cases h

theorem monS_ge {y m d n : Int} (hv : Vd y m d) (hn : 0 ≤ n) (h : (monS y m d n).2 = 0) : num y m d ≤ (monS y m d n).1 := by
  unfold monS at h ⊢
  split at h
  · cases h
  · rename_i h1
    rw [if_neg h1]
    obtain ⟨hv2, he, -, -⟩ := dayS_ok h
    rw [he]
    have a1 := num_in hv
    have a2 := num_in hv2
    have hb := beg_succ y
    have hy := hv
    obtain ⟨y1, y2, m1, m2, d1, d2⟩ := hy
    generalize hY : (n + (12 * y + m - 1)) / 12 = Y at *
    generalize hM : (n + (12 * y + m - 1)) % 12 + 1 = M at *
    have hk : n + (12 * y + m - 1) = 12 * Y + (M - 1) := by omega
    have hMr : 1 ≤ M ∧ M ≤ 12 := by omega
    rcases Int.lt_trichotomy y Y with c | c | c
    · have := beg_mono (show y + 1 ≤ Y by omega)
      omega
    · subst c
      rcases Int.lt_or_le m M with c2 | c2
      · have h3 := cum_succ y m m1 m2
        have h4 := cum_mono y (m + 1) M (by omega) (by omega) (by omega)
        obtain ⟨-, -, -, -, e1, -⟩ := hv2
        unfold num
        omega
      · have : M = m := by omega
        subst this
        have : min d (ml y M) = d := by omega
        rw [this]
        exact Int.le_refl _
    · omega

theorem nthS_le (l : List Int) (x : Int) : ∀ k, x ≤ nthS l k x
  | 0 => Int.le_refl _
  | k + 1 => by
    have ih := nthS_le l x k
    show x ≤ if isB (nthS l k x) = true then fromS l (nthS l k x + 1) else nthS l k x
    split
    · have := fromS_le l (nthS l k x + 1)
      omega
    · exact ih

/-- How many of the k days behind a offices are open on. -/
def cntS (l : List Int) (a : Int) : Nat → Nat
  | 0 => 0
  | k + 1 => cntS l a k + if opB l (a + 1 + (k : Int)) = true then 1 else 0
theorem cntS_add (l : List Int) (a : Int) (k : Nat) : ∀ j, cntS l a (k + j) = cntS l a k + cntS l (a + k) j
  | 0 => rfl
  | j + 1 => by
    have ih := cntS_add l a k j
    have e : a + 1 + ((k + j : Nat) : Int) = a + k + 1 + (j : Int) := by omega
    have e1 : cntS l a (k + j + 1) = cntS l a (k + j) + if opB l (a + 1 + ((k + j : Nat) : Int)) = true then 1 else 0 := rfl
    have e2 : cntS l (a + k) (j + 1) = cntS l (a + k) j + if opB l (a + k + 1 + (j : Int)) = true then 1 else 0 := rfl
    rw [← Nat.add_assoc, e1, e2, ih, e]
    omega
theorem cntS_no (l : List Int) (a : Int) : ∀ k : Nat, (∀ i : Int, a + 1 ≤ i → i < a + 1 + (k : Int) → opB l i = false) → cntS l a k = 0
  | 0, _ => rfl
  | k + 1, h => by
    show cntS l a k + (if opB l (a + 1 + (k : Int)) = true then 1 else 0) = 0
    rw [h (a + 1 + (k : Int)) (by omega) (by omega), cntS_no l a k (fun i h1 h2 => h i h1 (by omega))]
    rfl
theorem nthS_cnt (l : List Int) (x : Int) : ∀ k, isB (nthS l k x) = true → cntS l x (nthS l k x - x).toNat = k
  | 0, _ => by show cntS l x (x - x).toNat = 0; rw [Int.sub_self]; rfl
  | k + 1, h => by
    have hle := nthS_le l x k
    have e : nthS l (k + 1) x = if isB (nthS l k x) = true then fromS l (nthS l k x + 1) else nthS l k x := rfl
    cases hb : isB (nthS l k x) with
    | false =>
      rw [e, hb, if_neg (by simp), hb] at h
      cases h
    | true =>
      rw [e, if_pos hb] at h ⊢
      have ih := nthS_cnt l x k hb
      generalize hN : nthS l k x = N at *
      have hle2 := fromS_le l (N + 1)
      have hop := fromS_op l h
      have hno := fun i a b => (fromS_no l (x := N + 1) (i := i) a b).2.2
      generalize fromS l (N + 1) = E at *
      have e1 : (E - x).toNat = (N - x).toNat + ((E - N - 1).toNat + 1) := by omega
      have e2 : x + ((N - x).toNat : Int) = N := by omega
      rw [e1, cntS_add, ih, e2]
      show k + (cntS l N (E - N - 1).toNat + (if opB l (N + 1 + ((E - N - 1).toNat : Int)) = true then 1 else 0)) = k + 1
      have e3 : N + 1 + ((E - N - 1).toNat : Int) = E := by omega
      rw [e3, hop, cntS_no l N _ (fun i a b => hno i (by omega) (by omega))]
      rfl
theorem nthS_op (l : List Int) (x : Int) (k : Nat) (h : isB (nthS l (k + 1) x) = true) : opB l (nthS l (k + 1) x) = true := by
  have e : nthS l (k + 1) x = if isB (nthS l k x) = true then fromS l (nthS l k x + 1) else nthS l k x := rfl
  cases hb : isB (nthS l k x) with
  | false =>
    rw [e, hb, if_neg (by simp), hb] at h
    cases h
  | true =>
    rw [e, if_pos hb] at h ⊢
    exact fromS_op l h
end Go.Proofs.YtebdkmlganalaaaGreatDoor

namespace Go.Proofs.YtebdkmlganalaaaGreatDoor
open Go.RowKit Go.Shelf

def openK (p : Int → Bool) (l : List Int) : Nat → Int → Int × Int
  | 0, _ => (0, 10)
  | k + 1, x => if (!p x && opB l x) = true then (x, 0) else openK p l k (x + 1)
/-- The first day from one on that is not paused and on which offices are open. -/
def openS (p : Int → Bool) (l : List Int) (x : Int) : Int × Int := openK p l (1000001 - x).toNat x
theorem openS_out {p : Int → Bool} {l : List Int} {x : Int} (h : 1000000 < x) : openS p l x = (0, 10) := by
  unfold openS
  rw [show (1000001 - x).toNat = 0 by omega]
  rfl
theorem openS_in {p : Int → Bool} {l : List Int} {x : Int} (h : x ≤ 1000000) : openS p l x = if (!p x && opB l x) = true then (x, 0) else openS p l (x + 1) := by
  unfold openS
  rw [show (1000001 - x).toNat = (1000001 - (x + 1)).toNat + 1 by omega]
  rfl

set_option maxHeartbeats 1000000 in
theorem open_l (w : World) (g : Nat) (f d : Int) (J : List Stp2) (h : ClockAt w g f J) (hl : J.length ≤ 60) (d0 : 0 ≤ d) (d1 : d ≤ 100000000) (B : Nat) (A : Option Addr) (l : List Int) (c : Nat) (hA : IntsAt w B A l) (hB : B ≤ w.heap.size) (hll : l.length ≤ 4611686018427387904) (hw : ∀ x ∈ l, wf64 x) :
    Calls Tryz.prog 41 #[.int .i64 d, .func (.func 43) #[.pointer (some ⟨g, 0, none⟩)] #[], .slice A l.length c] w fun e w' => e = .returned (.tuple #[.int .i64 (openS (anyS J) l d).1, .int .i64 (openS (anyS J) l d).2]) ∧ Below w.heap.size w w' := by
  have eg : ∀ args w, (callFunc 43 args).run Tryz.prog w = .ok (.enter 43 args) w := enters_of Tryz.func43 (by kernel_rfl) rfl
  obtain ⟨r1, r2, hr⟩ : ∃ r1 r2, openS (anyS J) l d = (r1, r2) := ⟨_, _, rfl⟩
  rw [hr]
  have HR := Lib.hid hr
  have HC := Lib.hid h
  have HA := Lib.hid hA
  have HW := Lib.hid hw
  clear hr h hA hw
  go_enter Tryz.func41, Tryz.ntmps41
  go_wp2_with fail
  go_loopw [0] (fun v wr => ∃ x : Int, d ≤ x ∧ (x ≤ 1000001 ∨ x = d) ∧ v = .int .i64 x ∧ Hid (openS (anyS J) l x = (r1, r2)) ∧ Below w.heap.size w wr) (fun v _ => (1000001 - intOf v).toNat)
  case atStart => exact ⟨d, Int.le_refl _, .inr rfl, rfl, HR, Below.refl _ _⟩
  case round =>
    obtain ⟨x, x0, x1, rfl, hx, hb⟩ := hrel
    by_cases hlt : x ≤ 1000000
    · have hin := openS_in (p := anyS J) (l := l) hlt
      rw [hx.out] at hin
      obtain ⟨A1, c1, hk, hs⟩ := HC.out
      have hcl : ClockAt wr g f J := ⟨A1, c1, hk.below hb hk.lt, (hs.below hb).wide hb.size⟩
      have hpa := paused_any wr g f x J hcl hl
      clear hk hs hcl hx
      cases hp : anyS J x with
      | true =>
        rw [hp] at hpa hin
        rw [if_neg (by simp)] at hin
        have HIN := Lib.hid hin.symm
        have HP := Lib.hid hpa
        clear hin hpa hp
        go_wp2_with fail
        refine HP.out.mono ?_
        rintro e w1 ⟨rfl, b⟩
        replace hb := Below.then hb b
        clear b HP
        go_wp2
        go_roundw
        case rel => exact ⟨x + 1, by omega, by omega, by go_num, HIN, hb⟩
        case measure => simp [intOf]; omega
      | false =>
        rw [hp] at hpa hin
        have HP := Lib.hid hpa
        have hwk := fun W b => work_any W B A l c (HA.out.below (Below.mono (Below.then hb b) hB)) (Nat.le_trans hB (Below.then hb b).size) hll HW.out x
        clear hpa hp
        cases ho : opB l x with
        | true =>
          rw [ho, if_pos (by rfl)] at hin
          rw [ho] at hwk
          have HIN := Lib.hid hin
          have HWK := Lib.hid hwk
          clear hin hwk ho
          go_wp2_with fail
          refine HP.out.mono ?_
          rintro e w1 ⟨rfl, b⟩
          go_wp2_with fail
          refine (HWK.out _ b).mono ?_
          rintro e w2 ⟨rfl, b2⟩
          replace hb := Below.then (Below.then hb b) b2
          have hrr := HIN.out
          injection hrr with h1 h2
          subst h1 h2
          clear b b2 HWK HP HIN
          go_wp2
          go_ret2
          exact ⟨rfl, hb⟩
        | false =>
          rw [ho, if_neg (by simp)] at hin
          rw [ho] at hwk
          have HIN := Lib.hid hin.symm
          have HWK := Lib.hid hwk
          clear hin hwk ho
          go_wp2_with fail
          refine HP.out.mono ?_
          rintro e w1 ⟨rfl, b⟩
          go_wp2_with fail
          refine (HWK.out _ b).mono ?_
          rintro e w2 ⟨rfl, b2⟩
          replace hb := Below.then (Below.then hb b) b2
          clear b b2 HWK HP
          go_wp2
          go_roundw
          case rel => exact ⟨x + 1, by omega, by omega, by go_num, HIN, hb⟩
          case measure => simp [intOf]; omega
    · have hout := openS_out (p := anyS J) (l := l) (x := x) (by omega)
      rw [hx.out] at hout
      injection hout with h1 h2
      subst h1 h2
      clear hx
      go_wp2
      go_ret2
      exact ⟨rfl, hb⟩

/-- What Due returns. -/
noncomputable def dueS (L : Lm) (l : List Int) : Int × Int :=
  if prB L = true then (if (addS l L.f L.n L.u).2 = 0 then openS (pzB L.f L.S) l (nthU (pzB L.f L.S) L.f ((addS l L.f L.n L.u).1 - L.f).toNat) else (0, (addS l L.f L.n L.u).2)) else (0, 1)
theorem pz_far {f : Int} {S : List Stp2} (hS : ∀ s ∈ S, psB s = true) : ∀ x, 1000000 ≤ x → pzB f S x = false := fun x hx => by
  cases h : pzB f S x with
  | false => rfl
  | true =>
    obtain ⟨_, s, hs, h1, h2⟩ := pzB_iff.1 h
    have := psB_iff.1 (hS s hs)
    omega

/-- The end of a term is not before its beginning. -/
theorem add_ge {l : List Int} {d n u : Int} (h : (addS l d n u).2 = 0) : d ≤ (addS l d n u).1 ∧ isB (addS l d n u).1 = true ∧ opB l (addS l d n u).1 = true := by
  obtain ⟨hd, u1, u2, n0, n1, -, p, hp, hpb, he, heb⟩ := addS_ok h
  have hpe := fromS_le l p
  have hpd : d ≤ p := by
    unfold stepS at hp
    split at hp
    · injection hp with hp _; omega
    · split at hp
      · injection hp with hp _; omega
      · split at hp
        · obtain ⟨hv, hnum⟩ := ymd_of hd
          have := monS_ge hv n0 (by rw [hp])
          rw [hp, hnum] at this
          exact this
        · split at hp
          · obtain ⟨hv, hnum⟩ := ymd_of hd
            have := monS_ge (n := 12 * n) hv (by omega) (by rw [hp])
            rw [hp, hnum] at this
            exact this
          · injection hp with hp _
            rw [← hp]
            exact nthS_le l d _
  rw [he]
  exact ⟨by omega, heb, fromS_op l heb⟩

theorem aftJ_bd (n : Int) : ∀ (J : List Stp2) (d : Int), (∀ s ∈ J, s.1 < s.2 ∧ s.2 - s.1 ≤ 1000000) → d ≤ aftJ n J d ∧ aftJ n J d ≤ d + 1000000 * (J.length : Int)
  | [], d, _ => ⟨Int.le_refl _, by show d ≤ d + 1000000 * ((0 : Nat) : Int); omega⟩
  | s :: J, d, h => by
    obtain ⟨h1, h2⟩ := h s (by simp)
    have ih := aftJ_bd n J (if s.1 ≤ d ∧ 0 < n then d + (s.2 - s.1) else d) (fun t ht => h t (by simp [ht]))
    show d ≤ aftJ n J (if s.1 ≤ d ∧ 0 < n then d + (s.2 - s.1) else d) ∧ aftJ n J (if s.1 ≤ d ∧ 0 < n then d + (s.2 - s.1) else d) ≤ _
    rw [List.length_cons]
    split at ih <;> rename_i hc
    · rw [if_pos hc]; omega
    · rw [if_neg hc]; omega
end Go.Proofs.YtebdkmlganalaaaGreatDoor

namespace Go.Proofs.YtebdkmlganalaaaGreatDoor
open Go.RowKit Go.Shelf

set_option maxHeartbeats 2000000 in
theorem due_any (w : World) (L : Lm) (B : Nat) (A : Option Addr) (c : Nat) (h : LmAt w B A L) (hB : B ≤ w.heap.size) (C : Option Addr) (l : List Int) (cl : Nat) (hA : IntsAt w B C l) (hll : l.length ≤ 4611686018427387904) (hw : ∀ x ∈ l, wf64 x) :
    Calls Tryz.prog 19 #[.agg (L.cells A c), .slice C l.length cl] w fun e w' => e = .returned (.tuple #[.int .i64 (dueS L l).1, .int .i64 (dueS L l).2]) ∧ Below w.heap.size w w' := by
  obtain ⟨hs, hid, hsl⟩ := h
  obtain ⟨r1, r2, hr⟩ : ∃ r1 r2, dueS L l = (r1, r2) := ⟨_, _, rfl⟩
  rw [hr]
  obtain ⟨id, n, u, f, S⟩ := L
  show Calls Tryz.prog 19 #[.agg #[.string id, .int .i64 n, .int .i64 u, .int .i64 f, .slice A S.length c], .slice C l.length cl] w _
  have hb := (Below.refl w.heap.size w).alloc (Nat.le_refl _) (.cells #[.string id, .int .i64 n, .int .i64 u, .int .i64 f, .slice A S.length c] 66)
  have k0 := Blk.new w 66 #[.string id, .int .i64 n, .int .i64 u, .int .i64 f, .slice A S.length c]
  have hs1 := hs.below (hb.mono hB)
  have hA1 := hA.below (hb.mono hB)
  have hB1 : B ≤ (w.alloc (.cells #[.string id, .int .i64 n, .int .i64 u, .int .i64 f, .slice A S.length c] 66)).heap.size := Nat.le_trans hB hb.size
  have hpr := proper_any (w.alloc (.cells #[.string id, .int .i64 n, .int .i64 u, .int .i64 f, .slice A S.length c] 66)) ⟨id, n, u, f, S⟩ B A c hs1 hB1 hid hsl
  have HPR := Lib.hid hpr
  have HW := Lib.hid hw
  have HA := Lib.hid hA
  have HS := Lib.hid hs
  have HR := Lib.hid hr
  clear hpr hw hA hA1 hs hs1 hr hB1
  obtain ⟨t0, t1, -⟩ := k0.all
  cases hp : prB ⟨id, n, u, f, S⟩ with
  | false =>
    have h2 := HPR.out
    rw [hp] at h2
    have h3 := HR.out
    unfold dueS at h3
    rw [hp, if_neg (by simp)] at h3
    injection h3 with h3 h4
    subst h3 h4
    have H2 := Lib.hid h2
    clear h2 hp HPR HR
    go_enter Tryz.func19, Tryz.ntmps19
    go_wp2_with fail
    refine H2.out.mono ?_
    rintro e w2 ⟨rfl, b⟩
    replace hb := hb.trans (b.mono hb.size)
    clear b t0 t1
    go_wp2
    go_ret2
    exact ⟨rfl, hb⟩
  | true =>
    have h2 := HPR.out
    rw [hp] at h2
    have h3 := HR.out
    unfold dueS at h3
    rw [hp, if_pos rfl] at h3
    obtain ⟨-, hf, -, hl60, hS⟩ := prB_iff.1 hp
    obtain ⟨f0, f1⟩ := (isB_iff f).1 hf
    obtain ⟨a1, a2, ha⟩ : ∃ a1 a2, addS l f n u = (a1, a2) := ⟨_, _, rfl⟩
    simp only at h3 hS hl60
    rw [ha] at h3
    have HP := Lib.hid hp
    have H2 := Lib.hid h2
    have HADD := Lib.hid ha
    have HSS := Lib.hid hS
    clear h2 hp HPR HR hf ha hS
    have kk := k0
    have bb := hb
    clear k0 hb
    go_enter Tryz.func19, Tryz.ntmps19
    go_wp2_with fail
    refine H2.out.mono ?_
    rintro e w2 ⟨rfl, b⟩
    have k2 := kk.below b kk.lt
    replace bb := bb.trans (b.mono bb.size)
    clear b t0 t1 kk H2
    obtain ⟨t0, t1, -⟩ := k2.all
    go_wp2_with fail
    have hadd := add_any w2 B C l cl (HA.out.below (bb.mono hB)) (Nat.le_trans hB bb.size) HW.out f n u
    rw [HADD.out] at hadd
    refine hadd.mono ?_
    rintro e w3 ⟨rfl, b⟩
    have k3 := k2.below b k2.lt
    replace bb := bb.trans (b.mono bb.size)
    clear b t0 t1 k2 hadd
    obtain ⟨t0, t1, -⟩ := k3.all
    by_cases hz : a2 = 0
    · subst hz
      have hge := add_ge (l := l) (d := f) (n := n) (u := u) (by rw [HADD.out])
      rw [HADD.out] at hge
      obtain ⟨g1, g2, g3⟩ := hge
      obtain ⟨g4, g5⟩ := (isB_iff _).1 g2
      simp only at g1 g4 g5
      rw [if_pos rfl] at h3
      have H3 := Lib.hid h3
      clear h3 g2 g3
      go_wp2_with fail
      refine (start_any w3 ⟨id, n, u, f, S⟩ B A c (HS.out.below (bb.mono hB)) (Nat.le_trans hB bb.size) HP.out).mono ?_
      rintro e w4 ⟨g, J, rfl, hcl, hgood, b⟩
      obtain ⟨hsep, hany, hJl, hJm⟩ := hgood
      have k4 := k3.below b k3.lt
      replace bb := bb.trans (b.mono bb.size)
      have HSEP := Lib.hid hsep
      have HANY := Lib.hid hany
      have HJM := Lib.hid hJm
      simp only at hcl
      clear b t0 t1 k3 hsep hany hJm
      obtain ⟨t0, t1, -⟩ := k4.all
      go_wp2_with fail
      refine (after_any w4 g f (a1 - f) J hcl f0 f1 (by omega) (by omega) hJl HJM.out).mono ?_
      rintro e w5 ⟨rfl, b⟩
      have hcl5 : ClockAt w5 g f J := by
        obtain ⟨A5, c5, q1, q2⟩ := hcl
        exact ⟨A5, c5, q1.below b q1.lt, (q2.below b).wide b.size⟩
      replace bb := bb.trans (b.mono bb.size)
      have hbd := aftJ_bd (a1 - f) J (f + (a1 - f)) (fun s hs => by have := HJM.out s hs; omega)
      have hnn : ((a1 - f).toNat : Int) = a1 - f := by omega
      have hnth := aft_nth (f := f) HSEP.out (by rw [HANY.out]; exact pz_far HSS.out) (a1 - f).toNat
      rw [hnn] at hnth
      have HN := Lib.hid hnth
      generalize aftJ (a1 - f) J (f + (a1 - f)) = D at *
      clear hcl hnth hnn b t0 t1 k4
      go_wp2_with fail
      refine (open_l w5 g f D J hcl5 hJl (by omega) (by omega) B C l cl (HA.out.below (bb.mono hB)) (Nat.le_trans hB bb.size) hll HW.out).mono ?_
      rintro e w6 ⟨rfl, b⟩
      replace bb := bb.trans (b.mono bb.size)
      have hfin : openS (anyS J) l D = (r1, r2) := by rw [HN.out, HANY.out]; exact H3.out
      rw [hfin]
      clear b hcl5 hfin hbd
      go_wp2
      go_ret2
      exact ⟨rfl, bb⟩
    · rw [if_neg hz] at h3
      injection h3 with h4 h5
      subst h4 h5
      have hz2 : (a2 != 0) = true := by simpa using hz
      clear hz
      go_wp2
      go_ret2
      exact ⟨rfl, bb⟩
end Go.Proofs.YtebdkmlganalaaaGreatDoor

namespace Go.Proofs.YtebdkmlganalaaaGreatDoor
open Go.RowKit Go.Shelf

/-- What Left returns. -/
noncomputable def leftS (L : Lm) (day : Int) (l : List Int) : Int × Int :=
  if isB day = true then (if (dueS L l).2 = 0 then ((cntU (pzB L.f L.S) (day - 1) ((dueS L l).1 - day + 1).toNat : Int), 0) else (0, (dueS L l).2)) else (0, 1)

theorem openK_rng (p : Int → Bool) (l : List Int) : ∀ (k : Nat) (x : Int), (openK p l k x).2 = 0 → x ≤ (openK p l k x).1 ∧ (openK p l k x).1 < x + k ∧ p (openK p l k x).1 = false ∧ opB l (openK p l k x).1 = true ∧ ∀ i, x ≤ i → i < (openK p l k x).1 → p i = true ∨ opB l i = false
  | 0, x, h => by cases h
  | k + 1, x, h => by
    have e : openK p l (k + 1) x = if (!p x && opB l x) = true then (x, 0) else openK p l k (x + 1) := rfl
    rw [e] at h ⊢
    by_cases hc : (!p x && opB l x) = true
    · rw [if_pos hc] at h ⊢
      rw [Bool.and_eq_true, Bool.not_eq_true'] at hc
      exact ⟨Int.le_refl _, by show x < x + ((k + 1 : Nat) : Int); omega, hc.1, hc.2, fun i h1 h2 => by have h2 : i < x := h2; omega⟩
    · rw [if_neg hc] at h ⊢
      obtain ⟨a, b, c, d, g⟩ := openK_rng p l k (x + 1) h
      refine ⟨by omega, by omega, c, d, fun i h1 h2 => ?_⟩
      by_cases hi : i = x
      · subst hi
        cases h3 : p i with
        | true => exact .inl rfl
        | false =>
          cases h4 : opB l i with
          | false => exact .inr rfl
          | true => rw [h3, h4] at hc; exact absurd rfl hc
      · exact g i (by omega) h2
theorem openK_err (p : Int → Bool) (l : List Int) : ∀ (k : Nat) (x : Int), (openK p l k x).2 = 0 ∨ ((openK p l k x) = (0, 10) ∧ ∀ i, x ≤ i → i < x + k → p i = true ∨ opB l i = false)
  | 0, x => .inr ⟨rfl, fun i h1 h2 => by omega⟩
  | k + 1, x => by
    have e : openK p l (k + 1) x = if (!p x && opB l x) = true then (x, 0) else openK p l k (x + 1) := rfl
    rw [e]
    by_cases hc : (!p x && opB l x) = true
    · rw [if_pos hc]; exact .inl rfl
    · rw [if_neg hc]
      rcases openK_err p l k (x + 1) with h | ⟨h, g⟩
      · exact .inl h
      · refine .inr ⟨h, fun i h1 h2 => ?_⟩
        by_cases hi : i = x
        · subst hi
          cases h3 : p i with
          | true => exact .inl rfl
          | false =>
            cases h4 : opB l i with
            | false => exact .inr rfl
            | true => rw [h3, h4] at hc; exact absurd rfl hc
        · exact g i (by omega) (by omega)
/-- What openS finds. -/
theorem openS_ok {p : Int → Bool} {l : List Int} {x : Int} (h : (openS p l x).2 = 0) : x ≤ (openS p l x).1 ∧ (openS p l x).1 ≤ 1000000 ∧ p (openS p l x).1 = false ∧ opB l (openS p l x).1 = true ∧ ∀ i, x ≤ i → i < (openS p l x).1 → p i = true ∨ opB l i = false := by
  obtain ⟨a, b, c, d, g⟩ := openK_rng p l _ x h
  unfold openS
  exact ⟨a, by omega, c, d, g⟩
theorem openS_err {p : Int → Bool} {l : List Int} {x : Int} (h : (openS p l x).2 ≠ 0) : openS p l x = (0, 10) ∧ ∀ i, x ≤ i → i ≤ 1000000 → p i = true ∨ opB l i = false := by
  rcases openK_err p l (1000001 - x).toNat x with h1 | ⟨h1, g⟩
  · exact absurd h1 h
  · exact ⟨h1, fun i h2 h3 => g i h2 (by omega)⟩

/-- A last day is a day. -/
theorem due_day {L : Lm} {l : List Int} (h : (dueS L l).2 = 0) : prB L = true ∧ isB L.f = true ∧ L.f ≤ (dueS L l).1 ∧ (dueS L l).1 ≤ 1000000 := by
  unfold dueS at h ⊢
  cases hp : prB L with
  | false => rw [hp, if_neg (by simp)] at h; cases h
  | true =>
    rw [hp, if_pos rfl] at h
    rw [if_pos rfl]
    obtain ⟨-, hf, -, -, hS⟩ := prB_iff.1 hp
    by_cases ha : (addS l L.f L.n L.u).2 = 0
    · rw [if_pos ha] at h ⊢
      obtain ⟨g1, g2, g3⟩ := add_ge ha
      obtain ⟨h1, h2, -⟩ := openS_ok h
      obtain ⟨n1, -⟩ := nthU_spec (pz_far (f := L.f) hS) L.f ((addS l L.f L.n L.u).1 - L.f).toNat
      exact ⟨rfl, hf, by omega, h2⟩
    · rw [if_neg ha] at h
      exact absurd h ha

theorem ovlS_app (a b : Int) (J K : List Stp2) : ovlS a b (J ++ K) = ovlS a b J + ovlS a b K := by
  unfold ovlS
  rw [List.map_append, List.sum_append]
theorem ovlS_at {a b : Int} {J : List Stp2} {k : Nat} {s : Stp2} (h : J[k]? = some s) : ovlS a b (J.take (k + 1)) = ovlS a b (J.take k) + max 0 (min s.2 (b + 1) - max s.1 a) := by
  obtain ⟨hk, hs⟩ := List.getElem?_eq_some_iff.1 h
  rw [List.take_succ_eq_append_getElem hk, hs, ovlS_app]
  show _ + (ovl a b s + 0) = _
  unfold ovl
  omega

end Go.Proofs.YtebdkmlganalaaaGreatDoor

