/- slices.IndexFunc and ContainsFunc at stops, whatever the predicate; proper. -/
import Derived.Test.YtgfahifdmacmhaaGreatDoorTa
import Derived.Shelf.Abstract
namespace Go.Proofs.YtgfahifdmacmhaaGreatDoor
open Go.RowKit Go.Shelf

theorem idx_take {p : Stp2 → Bool} {S : List Stp2} {k : Nat} {s : Stp2} (h : S[k]? = some s) (hp : p s = true) : S.any p = true := List.any_eq_true.2 ⟨s, List.mem_of_getElem? h, hp⟩

/-- slices.IndexFunc: not negative just if some stop is as asked. -/
theorem index_any (w : World) (B : Nat) (A : Option Addr) (S : List Stp2) (c : Nat) (h : StopsAt w B A S) (hB : B ≤ w.heap.size) (hl : S.length ≤ 4611686018427387904) (p : Stp2 → Bool) (g : Nat) (lb : Array Value)
    (eg : ∀ args w, (callFunc g args).run Tryz.prog w = .ok (.enter g args) w)
    (hp : ∀ W s, Below w.heap.size w W → Calls Tryz.prog g (#[.agg (encStop s).toArray] ++ lb) W fun e w' => e = .returned (.bool (p s)) ∧ Below W.heap.size W w') :
    Calls Tryz.prog 149 #[.slice A S.length c, .func (.func g) #[] lb] w fun e w' => ∃ n : Int, e = .returned (.int .i64 n) ∧ (S.any p = true → 0 ≤ n) ∧ (S.any p = false → n < 0) ∧ Below w.heap.size w w' := by
  have HP := Lib.hid hp
  clear hp
  go_enter Tryz.func149, Tryz.ntmps149
  go_wp2_with fail
  go_loopw [8] (fun i wr => ∃ k : Nat, k ≤ S.length ∧ i = .int .i64 (k : Int) ∧ Hid ((S.take k).any p = false) ∧ Below w.heap.size w wr) (fun i _ => S.length - (intOf i).toNat)
  case atStart => exact ⟨0, Nat.zero_le _, rfl, Lib.hid rfl, Below.refl _ _⟩
  case round =>
    obtain ⟨k, hk, rfl, hn, hb⟩ := hrel
    by_cases hlt : k < S.length
    · obtain ⟨s, hs⟩ : ∃ s, S[k]? = some s := ⟨_, List.getElem?_eq_getElem hlt⟩
      obtain ⟨gb, off, hA, hg, c0, c1⟩ := h.below (hb.mono hB) k s hs
      subst hA
      have HC := HP.out wr s hb
      have HS := Lib.hid hs
      have HCC := Lib.hid HC
      clear hs HC
      go_wp2_with fail
      cases hps : p s with
      | true =>
        have hcl := HCC.out
        rw [hps] at hcl
        have hany := Lib.hid (idx_take HS.out hps)
        clear hps HCC
        refine hcl.mono ?_
        rintro e w1 ⟨rfl, b1⟩
        replace hb := hb.trans (b1.mono hb.size)
        clear b1 hcl
        go_wp2
        go_ret
        exact ⟨_, rfl, fun _ => by omega, fun h0 => by rw [hany.out] at h0; (cases h0), hb⟩
      | false =>
        have hcl := HCC.out
        rw [hps] at hcl
        have hnx : (S.take (k + 1)).any p = false := by
          obtain ⟨h1, h2⟩ := List.getElem?_eq_some_iff.1 HS.out
          rw [List.take_succ_eq_append_getElem h1, h2, List.any_append, hn.out]
          simp [hps]
        have HN := Lib.hid hnx
        clear hps HCC hnx
        refine hcl.mono ?_
        rintro e w1 ⟨rfl, b1⟩
        replace hb := hb.trans (b1.mono hb.size)
        clear b1 hcl
        go_wp2
        go_roundw
        case rel => exact ⟨k + 1, by omega, by go_num, HN, hb⟩
        case measure => simp [intOf]; omega
    · obtain rfl : k = S.length := by omega
      have hno := hn.out
      rw [List.take_length] at hno
      have HN := Lib.hid hno
      clear hno hn
      go_wp2
      go_ret
      exact ⟨_, rfl, fun h0 => by rw [HN.out] at h0; (cases h0), fun _ => by omega, hb⟩

theorem contains_any (w : World) (B : Nat) (A : Option Addr) (S : List Stp2) (c : Nat) (h : StopsAt w B A S) (hB : B ≤ w.heap.size) (hl : S.length ≤ 4611686018427387904) (p : Stp2 → Bool) (g : Nat) (lb : Array Value)
    (eg : ∀ args w, (callFunc g args).run Tryz.prog w = .ok (.enter g args) w)
    (hp : ∀ W s, Below w.heap.size w W → Calls Tryz.prog g (#[.agg (encStop s).toArray] ++ lb) W fun e w' => e = .returned (.bool (p s)) ∧ Below W.heap.size W w') :
    Calls Tryz.prog 134 #[.slice A S.length c, .func (.func g) #[] lb] w fun e w' => e = .returned (.bool (S.any p)) ∧ Below w.heap.size w w' := by
  have hi := index_any w B A S c h hB hl p g lb eg hp
  clear h hp eg
  generalize S.any p = r at *
  have HI := Lib.hid hi
  clear hi
  cases r with
  | true =>
    go_enter Tryz.func134, Tryz.ntmps134
    go_wp2_with fail
    refine HI.out.mono ?_
    rintro e w1 ⟨n, rfl, h1, -, hb⟩
    have hn := h1 trivial
    clear h1 HI
    go_wp2
    go_ret
    exact ⟨rfl, hb⟩
  | false =>
    go_enter Tryz.func134, Tryz.ntmps134
    go_wp2_with fail
    refine HI.out.mono ?_
    rintro e w1 ⟨n, rfl, -, h2, hb⟩
    have hn := h2 trivial
    have d0 : decide (0 ≤ n) = false := by simp; omega
    clear h2 HI
    go_wp2
    go_ret
    exact ⟨rfl, hb⟩

/-- A limit. -/
structure Lm where
  id : ByteArray
  n : Int
  u : Int
  f : Int
  S : List Stp2
def Lm.cells (L : Lm) (A : Option Addr) (c : Nat) : Array Value := #[.string L.id, .int .i64 L.n, .int .i64 L.u, .int .i64 L.f, .slice A L.S.length c]
def prB (L : Lm) : Bool := nmB L.id.data.toList && isB L.f && ptB L.n L.u && decide (L.S.length ≤ 60) && L.S.all psB
theorem prB_iff {L : Lm} : prB L = true ↔ nmB L.id.data.toList = true ∧ isB L.f = true ∧ ptB L.n L.u = true ∧ L.S.length ≤ 60 ∧ ∀ s ∈ L.S, psB s = true := by
  unfold prB
  simp only [Bool.and_eq_true, decide_eq_true_eq, List.all_eq_true, and_assoc]
theorem any_not {S : List Stp2} : (S.any fun s => !psB s) = !S.all psB := by
  induction S with
  | nil => rfl
  | cons s S ih => rw [List.any_cons, List.all_cons, ih, Bool.not_and]

set_option maxHeartbeats 1000000 in
theorem proper_any (w : World) (L : Lm) (B : Nat) (A : Option Addr) (c : Nat) (h : StopsAt w B A L.S) (hB : B ≤ w.heap.size) (hid : L.id.size ≤ 9223372036854775807) (hl : L.S.length ≤ 9223372036854775807) :
    Calls Tryz.prog 110 #[.agg (L.cells A c)] w fun e w' => e = .returned (.bool (prB L)) ∧ Below w.heap.size w w' := by
  obtain ⟨id, n, u, f, S⟩ := L
  show Calls Tryz.prog 110 #[.agg #[.string id, .int .i64 n, .int .i64 u, .int .i64 f, .slice A S.length c]] w _
  have eg : ∀ args w, (callFunc 130 args).run Tryz.prog w = .ok (.enter 130 args) w := enters_of Tryz.func130 (by kernel_rfl) rfl
  have hr : prB ⟨id, n, u, f, S⟩ = (nmB id.data.toList && isB f && ptB n u && decide (S.length ≤ 60) && S.all psB) := rfl
  have h1 := fun W => isName_any W id hid
  have h2 := fun W => isDay_any W f
  have h3 := fun W => properTerm_any W n u
  obtain ⟨r, hrr⟩ : ∃ r, prB ⟨id, n, u, f, S⟩ = r := ⟨_, rfl⟩
  rw [hrr] at hr ⊢
  clear hrr
  have hbb := (Below.refl w.heap.size w).alloc (Nat.le_refl _) (.cells #[.string id, .int .i64 n, .int .i64 u, .int .i64 f, .slice A S.length c] 65)
  have kk := Blk.new w 65 #[.string id, .int .i64 n, .int .i64 u, .int .i64 f, .slice A S.length c]
  have H1 := Lib.hid h1
  have H2 := Lib.hid h2
  have H3 := Lib.hid h3
  have HH := Lib.hid h
  clear h1 h2 h3 h
  generalize hn : nmB id.data.toList = b1 at *
  generalize hf : isB f = b2 at *
  generalize ht : ptB n u = b3 at *
  clear hn hf ht
  cases b1 with
  | false =>
    rw [Bool.false_and, Bool.false_and, Bool.false_and, Bool.false_and] at hr
    subst hr
    go_enter Tryz.func110, Tryz.ntmps110
    go_wp2_with fail
    refine (H1.out _).mono ?_
    rintro e w1 ⟨rfl, rfl⟩
    go_wp2
    go_ret
    exact ⟨rfl, hbb⟩
  | true =>
  cases b2 with
  | false =>
    rw [Bool.and_false, Bool.false_and, Bool.false_and, Bool.false_and] at hr
    subst hr
    go_enter Tryz.func110, Tryz.ntmps110
    go_wp2_with fail
    refine (H1.out _).mono ?_
    rintro e w1 ⟨rfl, rfl⟩
    go_wp2_with fail
    refine (H2.out _).mono ?_
    rintro e w1 ⟨rfl, rfl⟩
    go_wp2
    go_ret
    exact ⟨rfl, hbb⟩
  | true =>
  obtain ⟨t0, t1, -⟩ := kk.all
  cases b3 with
  | false =>
    rw [Bool.and_false, Bool.false_and, Bool.false_and] at hr
    subst hr
    go_enter Tryz.func110, Tryz.ntmps110
    go_wp2_with fail
    refine (H1.out _).mono ?_
    rintro e w1 ⟨rfl, rfl⟩
    go_wp2_with fail
    refine (H2.out _).mono ?_
    rintro e w1 ⟨rfl, rfl⟩
    go_wp2_with fail
    refine (H3.out _).mono ?_
    rintro e w1 ⟨rfl, b⟩
    replace hbb := hbb.trans (b.mono (by simp))
    clear b t0 t1
    go_wp2
    go_ret
    exact ⟨rfl, hbb⟩
  | true =>
    rw [Bool.true_and, Bool.true_and, Bool.true_and] at hr
    by_cases h60 : S.length ≤ 60
    · rw [decide_eq_true h60, Bool.true_and] at hr
      have HR := Lib.hid hr
      clear hr
      go_enter Tryz.func110, Tryz.ntmps110
      go_wp2_with fail
      refine (H1.out _).mono ?_
      rintro e w1 ⟨rfl, rfl⟩
      go_wp2_with fail
      refine (H2.out _).mono ?_
      rintro e w1 ⟨rfl, rfl⟩
      go_wp2_with fail
      refine (H3.out _).mono ?_
      rintro e w1 ⟨rfl, b⟩
      replace hbb := hbb.trans (b.mono (by simp))
      have kk1 := kk.below b kk.lt
      clear b t0 t1 kk
      obtain ⟨t0, t1, -⟩ := kk1.all
      go_wp2_with fail
      refine (contains_any w1 B A S c (HH.out.below (hbb.mono hB)) (Nat.le_trans hB hbb.size) (by omega) (fun s => !psB s) 130 #[] eg (fun W s _ => wrong_any W s)).mono ?_
      rintro e w2 ⟨rfl, b⟩
      replace hbb := hbb.trans (b.mono hbb.size)
      clear b t0 t1
      rw [any_not, ← HR.out]
      cases r
      all_goals
        go_wp2
        go_ret
        exact ⟨rfl, hbb⟩
    · have h60' : decide ((S.length : Int) ≤ 60) = false := by simp; omega
      rw [decide_eq_false h60, Bool.false_and] at hr
      subst hr
      go_enter Tryz.func110, Tryz.ntmps110
      go_wp2_with fail
      refine (H1.out _).mono ?_
      rintro e w1 ⟨rfl, rfl⟩
      go_wp2_with fail
      refine (H2.out _).mono ?_
      rintro e w1 ⟨rfl, rfl⟩
      go_wp2_with fail
      refine (H3.out _).mono ?_
      rintro e w1 ⟨rfl, b⟩
      replace hbb := hbb.trans (b.mono (by simp))
      have kk1 := kk.below b kk.lt
      clear b t0 t1 kk
      obtain ⟨t0, t1, -⟩ := kk1.all
      go_wp2
      go_ret
      exact ⟨rfl, hbb⟩
end Go.Proofs.YtgfahifdmacmhaaGreatDoor
