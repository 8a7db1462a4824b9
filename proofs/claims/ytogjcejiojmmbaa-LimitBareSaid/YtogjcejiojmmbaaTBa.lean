/- The walk of LimitBare. -/
import Derived.Test.YtogjcejiojmmbaaTu
namespace Go.Proofs.Ytogjcejiojmmbaa
open Go.RowKit Go.Shelf

theorem nthU_none {p : Int → Bool} (h : ∀ x, p x = false) (f : Int) : ∀ n : Nat, nthU p f n = f + n
  | 0 => by show f = f + 0; omega
  | n + 1 => by
    show nextU p (nthU p f n) = _
    rw [nextU_free (h _), nthU_none h f n]
    omega
theorem pz_none (f x : Int) : pzB f [] x = false := by
  cases h : pzB f [] x with
  | false => rfl
  | true => obtain ⟨_, s, hs, _⟩ := pzB_iff.1 h; cases hs
theorem due_bare {L : Lm} {l : List Int} (hp : prB L = true) (hS : L.S = []) : dueS L l = addS l L.f L.n L.u := by
  unfold dueS
  rw [hp, if_pos rfl, hS]
  by_cases ha : (addS l L.f L.n L.u).2 = 0
  · rw [if_pos ha]
    obtain ⟨g1, g2, g3⟩ := add_ge ha
    obtain ⟨g4, g5⟩ := (isB_iff _).1 g2
    rw [nthU_none (pz_none L.f)]
    have e : L.f + (((addS l L.f L.n L.u).1 - L.f).toNat : Int) = (addS l L.f L.n L.u).1 := by omega
    rw [e, openS_here g5 (pz_none _ _) g3]
    exact Prod.ext rfl ha.symm
  · rw [if_neg ha]
    exact Prod.ext (addS_err ha).symm rfl

set_option maxRecDepth 100000 in
set_option maxHeartbeats 4000000 in
theorem bare_walk (w : World) (x : Lm × Option Addr × Nat) (hx : LmAt w w.heap.size x.2.1 x.1) (C : Option Addr) (cl : Nat) (l : List Int) (h : Ints w w.heap.size C l) :
    Calls Try.prog 4 #[.agg (x.1.cells x.2.1 x.2.2), .slice C l.length cl] w fun e w' => e = .returned (.bool true) ∧ Below w.heap.size w w' := by
  obtain ⟨hA, hw, hl⟩ := h
  obtain ⟨⟨id, n, u, f, S⟩, A, c⟩ := x
  obtain ⟨-, hid, -⟩ := hx
  simp only at hid
  have HA := Lib.hid hA
  have HW := Lib.hid hw
  clear hA hw
  show Calls Try.prog 4 #[.agg #[.string id, .int .i64 n, .int .i64 u, .int .i64 f, .slice A S.length c], .slice C l.length cl] w _
  have hb := (Below.refl w.heap.size w).alloc (Nat.le_refl _) (.cells #[.string id, .int .i64 n, .int .i64 u, .int .i64 f, .slice A S.length c] 26)
  have k0 := Blk.new w 26 #[.string id, .int .i64 n, .int .i64 u, .int .i64 f, .slice A S.length c]
  have hL : ∀ W, LmAt W W.heap.size none ⟨id, n, u, f, []⟩ := fun W => ⟨StopsAt.nil _ _ _, hid, by simp⟩
  have HL := Lib.hid hL
  clear hL
  go_enter Try.func4, Try.ntmps4
  go_wp2_with fail
  refine (head_any _).mono ?_
  rintro e w1 ⟨rfl, b⟩
  have k1 := (k0.below b k0.lt).set_ 4 (.slice none 0 0)
  obtain ⟨t0, t1, -⟩ := (k0.below b k0.lt).all
  replace hb := (hb.trans (b.mono hb.size)).setCell (p := ⟨w.heap.size, 4, none⟩) (Nat.le_refl _) (.slice none 0 0)
  have k2 : Blk (w1.setCell ⟨w.heap.size, 4, none⟩ (.slice none 0 0)) w.heap.size 26 #[.string id, .int .i64 n, .int .i64 u, .int .i64 f, .slice none 0 0] := k1
  clear b k0 k1
  go_wp2_with fail
  generalize w1.setCell ⟨w.heap.size, 4, none⟩ (.slice none 0 0) = w2 at *
  clear t0 t1
  obtain ⟨r, hr⟩ : ∃ r, frB ⟨id, n, u, f, []⟩ l.length = r := ⟨_, rfl⟩
  have hfew := few_any w2 ⟨id, n, u, f, []⟩ w2.heap.size none 0 (HL.out _) (Nat.le_refl _) C l.length cl hl
  rw [hr] at hfew
  refine hfew.mono ?_
  rintro e w3 ⟨rfl, b⟩
  have k3 := k2.below b k2.lt
  replace hb := hb.trans (b.mono hb.size)
  clear b hfew k2
  obtain ⟨t0, t1, -⟩ := k3.all
  cases r with
  | false =>
    clear hr
    go_wp2
    go_ret
    exact ⟨rfl, hb⟩
  | true =>
    obtain ⟨-, -, -, -, hm⟩ := frB_iff.1 hr
    clear hr
    obtain ⟨q1, q2, hq⟩ : ∃ q1 q2, dueS ⟨id, n, u, f, []⟩ l = (q1, q2) := ⟨_, _, rfl⟩
    obtain ⟨a1, a2, ha⟩ : ∃ a1 a2, addS l f n u = (a1, a2) := ⟨_, _, rfl⟩
    have hrel : (prB ⟨id, n, u, f, []⟩ = true ∧ q1 = a1 ∧ q2 = a2) ∨ (prB ⟨id, n, u, f, []⟩ = false ∧ q1 = 0 ∧ q2 = 1) := by
      cases hp : prB ⟨id, n, u, f, []⟩ with
      | true =>
        have := due_bare (l := l) hp rfl
        rw [hq] at this
        simp only at this
        rw [ha] at this
        injection this with h1 h2
        exact .inl ⟨rfl, h1, h2⟩
      | false =>
        unfold dueS at hq
        rw [hp, if_neg (by simp)] at hq
        injection hq with h1 h2
        exact .inr ⟨rfl, h1.symm, h2.symm⟩
    have HQ := Lib.hid hq
    have HAD := Lib.hid ha
    clear hq ha
    go_wp2_with fail
    have hdue := due_any w3 ⟨id, n, u, f, []⟩ w.heap.size none 0 ⟨StopsAt.nil _ _ _, hid, by simp⟩ hb.size C l cl (HA.out.below hb) (by omega) HW.out
    rw [HQ.out] at hdue
    refine hdue.mono ?_
    rintro e w4 ⟨rfl, b⟩
    have k4 := k3.below b k3.lt
    replace hb := hb.trans (b.mono hb.size)
    clear b hdue k3 t0 t1
    obtain ⟨t0, t1, -⟩ := k4.all
    go_wp2_with fail
    have hadd := add_any w4 w.heap.size C l cl (HA.out.below hb) hb.size HW.out f n u
    rw [HAD.out] at hadd
    refine hadd.mono ?_
    rintro e w5 ⟨rfl, b⟩
    have k5 := k4.below b k4.lt
    replace hb := hb.trans (b.mono hb.size)
    clear b hadd k4 t0 t1
    obtain ⟨t0, t1, -⟩ := k5.all
    go_wp2_with fail
    have hpr := rProper_any w5 ⟨id, n, u, f, []⟩ w5.heap.size none 0 (HL.out _) (Nat.le_refl _)
    rcases hrel with ⟨hp, h1, h2⟩ | ⟨hp, h1, h2⟩
    all_goals
      rw [hp] at hpr
      have HPR := Lib.hid hpr
      subst h1 h2
      clear hpr hp
      refine HPR.out.mono ?_
      rintro e w6 ⟨rfl, b⟩
      replace hb := hb.trans (b.mono hb.size)
      clear b HPR t0 t1 k5
      go_wp2
      go_ret
      exact ⟨rfl, hb⟩
end Go.Proofs.Ytogjcejiojmmbaa
