/- The small functions of package limit: properStop, properTerm, isDay, proper's closure. slices.IndexFunc and ContainsFunc at stops, whatever the predicate; proper. A region that draws its order, over any program: reads that hold as long as S does, first; then operations that come up in any order, behind each of which S holds; then the rest, one at a time. And append of a slice that may be nil. -/
import Derived.Test.YtebdkmlganalaaaGreatDoorKTopAccruedGAF
import Derived.Shelf.Abstract
import Derived.Test.YtebdkmlganalaaaGreatDoorKTopAccruedPlan
import Derived.Maps.AppendAt
namespace Go.Proofs.YtebdkmlganalaaaGreatDoor
open Go.RowKit

/-- Whether a stop, a term is as required. -/
def psB (s : Stp2) : Bool := decide (0 ≤ s.1 ∧ s.1 ≤ s.2 ∧ s.2 ≤ 1000000)
theorem psB_iff {s : Stp2} : psB s = true ↔ 0 ≤ s.1 ∧ s.1 ≤ s.2 ∧ s.2 ≤ 1000000 := by simp [psB]
def ptB (n u : Int) : Bool := decide (1 ≤ u ∧ u ≤ 5 ∧ 0 ≤ n ∧ n ≤ 1000000)
theorem ptB_iff {n u : Int} : ptB n u = true ↔ 1 ≤ u ∧ u ≤ 5 ∧ 0 ≤ n ∧ n ≤ 1000000 := by simp [ptB]

theorem isDay_any (w : World) (n : Int) : Calls Tryz.prog 68 #[.int .i64 n] w fun e w' => e = .returned (.bool (isB n)) ∧ w = w' := by
  by_cases h0 : 0 ≤ n
  · by_cases h1 : n ≤ 1000000
    · rw [(isB_iff n).2 ⟨h0, h1⟩]
      go_enter Tryz.func68, Tryz.ntmps68
      go_wp2
      go_ret
      exact ⟨rfl, rfl⟩
    · rw [isB_no (.inr (by omega))]
      go_enter Tryz.func68, Tryz.ntmps68
      go_wp2
      go_ret
      exact ⟨rfl, rfl⟩
  · rw [isB_no (.inl (by omega))]
    go_enter Tryz.func68, Tryz.ntmps68
    go_wp2
    go_ret
    exact ⟨rfl, rfl⟩

theorem properStop_any (w : World) (a b : Int) : Calls Tryz.prog 74 #[.agg #[.int .i64 a, .int .i64 b]] w fun e w' => e = .returned (.bool (psB (a, b))) ∧ Below w.heap.size w w' := by
  have hb := (Below.refl w.heap.size w).alloc (Nat.le_refl _) (.cells #[.int .i64 a, .int .i64 b] 102)
  by_cases h0 : 0 ≤ a
  · by_cases h1 : a ≤ b
    · by_cases h2 : b ≤ 1000000
      · rw [psB_iff.2 ⟨h0, h1, h2⟩]
        go_enter Tryz.func74, Tryz.ntmps74
        go_wp2
        go_ret
        exact ⟨rfl, hb⟩
      · have e : psB (a, b) = false := by simp [psB]; omega
        rw [e]
        clear e
        go_enter Tryz.func74, Tryz.ntmps74
        go_wp2
        go_ret
        exact ⟨rfl, hb⟩
    · have e : psB (a, b) = false := by simp [psB]; omega
      rw [e]
      clear e
      go_enter Tryz.func74, Tryz.ntmps74
      go_wp2
      go_ret
      exact ⟨rfl, hb⟩
  · have e : psB (a, b) = false := by simp [psB]; omega
    rw [e]
    clear e
    go_enter Tryz.func74, Tryz.ntmps74
    go_wp2
    go_ret
    exact ⟨rfl, hb⟩

theorem properTerm_any (w : World) (n u : Int) : Calls Tryz.prog 69 #[.agg #[.int .i64 n, .int .i64 u]] w fun e w' => e = .returned (.bool (ptB n u)) ∧ Below w.heap.size w w' := by
  have hb := (Below.refl w.heap.size w).alloc (Nat.le_refl _) (.cells #[.int .i64 n, .int .i64 u] 63)
  cases hp : ptB n u with
  | true =>
    obtain ⟨h0, h1, h2, h3⟩ := ptB_iff.1 hp
    clear hp
    go_enter Tryz.func69, Tryz.ntmps69
    go_wp2
    go_ret
    exact ⟨rfl, hb⟩
  | false =>
    have h : u < 1 ∨ (1 ≤ u ∧ 5 < u) ∨ (1 ≤ u ∧ u ≤ 5 ∧ n < 0) ∨ (1 ≤ u ∧ u ≤ 5 ∧ 0 ≤ n ∧ 1000000 < n) := by
      simp [ptB] at hp
      omega
    clear hp
    rcases h with h | ⟨h, h1⟩ | ⟨h, h1, h2⟩ | ⟨h, h1, h2, h3⟩
    all_goals cases d6 : decide (n ≤ 1000000)
    all_goals try (exfalso; simp at d6; omega)
    all_goals
      go_enter Tryz.func69, Tryz.ntmps69
      go_wp2
      go_ret
      exact ⟨rfl, hb⟩

/-- Two cells of a stop. -/
def encStop (s : Stp2) : List Value := [.int .i64 s.1, .int .i64 s.2]
def StopsAt (w : World) (B : Nat) (A : Option Addr) (S : List Stp2) : Prop :=
  ∀ (i : Nat) (s : Stp2), S[i]? = some s → ∃ g off, A = some ⟨g, off, none⟩ ∧ g < B ∧ w.cell? ⟨g, off + i * 2, none⟩ = some (.int .i64 s.1) ∧ w.cell? ⟨g, off + i * 2 + 1, none⟩ = some (.int .i64 s.2)
theorem StopsAt.below {w w' : World} {B : Nat} {A : Option Addr} {S : List Stp2} (h : StopsAt w B A S) (hb : Below B w w') : StopsAt w' B A S := fun i s hi => by
  obtain ⟨g, off, hA, hg, h1, h2⟩ := h i s hi
  exact ⟨g, off, hA, hg, (hb.cell (p := ⟨g, off + i * 2, none⟩) hg).trans h1, (hb.cell (p := ⟨g, off + i * 2 + 1, none⟩) hg).trans h2⟩
theorem StopsAt.wide {w : World} {B B' : Nat} {A : Option Addr} {S : List Stp2} (h : StopsAt w B A S) (hB : B ≤ B') : StopsAt w B' A S := fun i s hi => by
  obtain ⟨g, off, hA, hg, h1⟩ := h i s hi
  exact ⟨g, off, hA, Nat.lt_of_lt_of_le hg hB, h1⟩
theorem StopsAt.nil (w : World) (B : Nat) (A : Option Addr) : StopsAt w B A [] := fun i s hi => by simp at hi

theorem wrong_any (w : World) (s : Stp2) : Calls Tryz.prog 73 #[.agg (encStop s).toArray] w fun e w' => e = .returned (.bool !psB s) ∧ Below w.heap.size w w' := by
  show Calls Tryz.prog 73 #[.agg #[.int .i64 s.1, .int .i64 s.2]] w fun e w' => e = .returned (.bool !psB s) ∧ Below w.heap.size w w'
  have hb := (Below.refl w.heap.size w).alloc (Nat.le_refl _) (.cells #[.int .i64 s.1, .int .i64 s.2] 102)
  obtain ⟨a, b⟩ := s
  cases hp : psB (a, b) with
  | true =>
    have hc := fun W => properStop_any W a b
    rw [hp] at hc
    have HC := Lib.hid hc
    clear hc hp
    go_enter Tryz.func73, Tryz.ntmps73
    go_wp2_with fail
    refine (HC.out _).mono ?_
    rintro e w1 ⟨rfl, b2⟩
    replace hb := hb.trans (b2.mono (by simp))
    clear b2
    go_wp2
    go_ret
    exact ⟨rfl, hb⟩
  | false =>
    have hc := fun W => properStop_any W a b
    rw [hp] at hc
    have HC := Lib.hid hc
    clear hc hp
    go_enter Tryz.func73, Tryz.ntmps73
    go_wp2_with fail
    refine (HC.out _).mono ?_
    rintro e w1 ⟨rfl, b2⟩
    replace hb := hb.trans (b2.mono (by simp))
    clear b2
    go_wp2
    go_ret
    exact ⟨rfl, hb⟩
end Go.Proofs.YtebdkmlganalaaaGreatDoor

namespace Go.Proofs.YtebdkmlganalaaaGreatDoor
open Go.RowKit Go.Shelf

theorem idx_take {p : Stp2 → Bool} {S : List Stp2} {k : Nat} {s : Stp2} (h : S[k]? = some s) (hp : p s = true) : S.any p = true := List.any_eq_true.2 ⟨s, List.mem_of_getElem? h, hp⟩

/-- slices.IndexFunc: not negative just if some stop is as asked. -/
theorem index_any (w : World) (B : Nat) (A : Option Addr) (S : List Stp2) (c : Nat) (h : StopsAt w B A S) (hB : B ≤ w.heap.size) (hl : S.length ≤ 4611686018427387904) (p : Stp2 → Bool) (g : Nat) (lb : Array Value)
    (eg : ∀ args w, (callFunc g args).run Tryz.prog w = .ok (.enter g args) w)
    (hp : ∀ W s, Below w.heap.size w W → Calls Tryz.prog g (#[.agg (encStop s).toArray] ++ lb) W fun e w' => e = .returned (.bool (p s)) ∧ Below W.heap.size W w') :
    Calls Tryz.prog 106 #[.slice A S.length c, .func (.func g) #[] lb] w fun e w' => ∃ n : Int, e = .returned (.int .i64 n) ∧ (S.any p = true → 0 ≤ n) ∧ (S.any p = false → n < 0) ∧ Below w.heap.size w w' := by
  have HP := Lib.hid hp
  clear hp
  go_enter Tryz.func106, Tryz.ntmps106
  go_wp2_with fail
  go_loopw [8] (fun i wr => ∃ k : Nat, k ≤ S.length ∧ i = .int .i64 (k : Int) ∧ Hid ((S.take k).any p = false) ∧ Below w.heap.size w wr) (fun i _ => S.length - (intOf i).toNat)
  case atStart => exact ⟨0, Nat.zero_le _, rfl, Lib.hid rfl, Below.refl _ _⟩
  case round =>
    obtain ⟨k, hk, rfl, hn, hb⟩ := hrel
    by_cases hlt : k < S.length
    · obtain ⟨s, hs⟩ : ∃ s, S[k]? = some s := ⟨_, List.getElem?_eq_getElem hlt⟩
      obtain ⟨gb, off, hA, hg, c0, c1⟩ := h.below (hb.mono hB) k s hs
      subst hA
      have HC := HP.out wr s hb
      have HS := Lib.hid hs
      have HCC := Lib.hid HC
      clear hs HC
      go_wp2_with fail
      cases hps : p s with
      | true =>
        have hcl := HCC.out
        rw [hps] at hcl
        have hany := Lib.hid (idx_take HS.out hps)
        clear hps HCC
        refine hcl.mono ?_
        rintro e w1 ⟨rfl, b1⟩
        replace hb := hb.trans (b1.mono hb.size)
        clear b1 hcl
        go_wp2
        go_ret
        exact ⟨_, rfl, fun _ => by omega, fun h0 => by rw [hany.out] at h0; (cases h0), hb⟩
      | false =>
        have hcl := HCC.out
        rw [hps] at hcl
        have hnx : (S.take (k + 1)).any p = false := by
          obtain ⟨h1, h2⟩ := List.getElem?_eq_some_iff.1 HS.out
          rw [List.take_succ_eq_append_getElem h1, h2, List.any_append, hn.out]
          simp [hps]
        have HN := Lib.hid hnx
        clear hps HCC hnx
        refine hcl.mono ?_
        rintro e w1 ⟨rfl, b1⟩
        replace hb := hb.trans (b1.mono hb.size)
        clear b1 hcl
        go_wp2
        go_roundw
        case rel => exact ⟨k + 1, by omega, by go_num, HN, hb⟩
        case measure => simp [intOf]; omega
    · obtain rfl : k = S.length := by omega
      have hno := hn.out
      rw [List.take_length] at hno
      have HN := Lib.hid hno
      clear hno hn
      go_wp2
      go_ret
      exact ⟨_, rfl, fun h0 => by rw [HN.out] at h0; (cases h0), fun _ => by omega, hb⟩

theorem contains_any (w : World) (B : Nat) (A : Option Addr) (S : List Stp2) (c : Nat) (h : StopsAt w B A S) (hB : B ≤ w.heap.size) (hl : S.length ≤ 4611686018427387904) (p : Stp2 → Bool) (g : Nat) (lb : Array Value)
    (eg : ∀ args w, (callFunc g args).run Tryz.prog w = .ok (.enter g args) w)
    (hp : ∀ W s, Below w.heap.size w W → Calls Tryz.prog g (#[.agg (encStop s).toArray] ++ lb) W fun e w' => e = .returned (.bool (p s)) ∧ Below W.heap.size W w') :
    Calls Tryz.prog 76 #[.slice A S.length c, .func (.func g) #[] lb] w fun e w' => e = .returned (.bool (S.any p)) ∧ Below w.heap.size w w' := by
  have hi := index_any w B A S c h hB hl p g lb eg hp
  clear h hp eg
  generalize S.any p = r at *
  have HI := Lib.hid hi
  clear hi
  cases r with
  | true =>
    go_enter Tryz.func76, Tryz.ntmps76
    go_wp2_with fail
    refine HI.out.mono ?_
    rintro e w1 ⟨n, rfl, h1, -, hb⟩
    have hn := h1 trivial
    clear h1 HI
    go_wp2
    go_ret
    exact ⟨rfl, hb⟩
  | false =>
    go_enter Tryz.func76, Tryz.ntmps76
    go_wp2_with fail
    refine HI.out.mono ?_
    rintro e w1 ⟨n, rfl, -, h2, hb⟩
    have hn := h2 trivial
    have d0 : decide (0 ≤ n) = false := by simp; omega
    clear h2 HI
    go_wp2
    go_ret
    exact ⟨rfl, hb⟩

/-- A limit. -/
structure Lm where
  id : ByteArray
  n : Int
  u : Int
  f : Int
  S : List Stp2
def Lm.cells (L : Lm) (A : Option Addr) (c : Nat) : Array Value := #[.string L.id, .int .i64 L.n, .int .i64 L.u, .int .i64 L.f, .slice A L.S.length c]
def prB (L : Lm) : Bool := nmB L.id.data.toList && isB L.f && ptB L.n L.u && decide (L.S.length ≤ 60) && L.S.all psB
theorem prB_iff {L : Lm} : prB L = true ↔ nmB L.id.data.toList = true ∧ isB L.f = true ∧ ptB L.n L.u = true ∧ L.S.length ≤ 60 ∧ ∀ s ∈ L.S, psB s = true := by
  unfold prB
  simp only [Bool.and_eq_true, decide_eq_true_eq, List.all_eq_true, and_assoc]
theorem any_not {S : List Stp2} : (S.any fun s => !psB s) = !S.all psB := by
  induction S with
  | nil => rfl
  | cons s S ih => rw [List.any_cons, List.all_cons, ih, Bool.not_and]

set_option maxHeartbeats 1000000 in
theorem proper_any (w : World) (L : Lm) (B : Nat) (A : Option Addr) (c : Nat) (h : StopsAt w B A L.S) (hB : B ≤ w.heap.size) (hid : L.id.size ≤ 9223372036854775807) (hl : L.S.length ≤ 9223372036854775807) :
    Calls Tryz.prog 38 #[.agg (L.cells A c)] w fun e w' => e = .returned (.bool (prB L)) ∧ Below w.heap.size w w' := by
  obtain ⟨id, n, u, f, S⟩ := L
  show Calls Tryz.prog 38 #[.agg #[.string id, .int .i64 n, .int .i64 u, .int .i64 f, .slice A S.length c]] w _
  have eg : ∀ args w, (callFunc 73 args).run Tryz.prog w = .ok (.enter 73 args) w := enters_of Tryz.func73 (by kernel_rfl) rfl
  have hr : prB ⟨id, n, u, f, S⟩ = (nmB id.data.toList && isB f && ptB n u && decide (S.length ≤ 60) && S.all psB) := rfl
  have h1 := fun W => isName_any W id hid
  have h2 := fun W => isDay_any W f
  have h3 := fun W => properTerm_any W n u
  obtain ⟨r, hrr⟩ : ∃ r, prB ⟨id, n, u, f, S⟩ = r := ⟨_, rfl⟩
  rw [hrr] at hr ⊢
  clear hrr
  have hbb := (Below.refl w.heap.size w).alloc (Nat.le_refl _) (.cells #[.string id, .int .i64 n, .int .i64 u, .int .i64 f, .slice A S.length c] 66)
  have kk := Blk.new w 66 #[.string id, .int .i64 n, .int .i64 u, .int .i64 f, .slice A S.length c]
  have H1 := Lib.hid h1
  have H2 := Lib.hid h2
  have H3 := Lib.hid h3
  have HH := Lib.hid h
  clear h1 h2 h3 h
  generalize hn : nmB id.data.toList = b1 at *
  generalize hf : isB f = b2 at *
  generalize ht : ptB n u = b3 at *
  clear hn hf ht
  cases b1 with
  | false =>
    rw [Bool.false_and, Bool.false_and, Bool.false_and, Bool.false_and] at hr
    subst hr
    go_enter Tryz.func38, Tryz.ntmps38
    go_wp2_with fail
    refine (H1.out _).mono ?_
    rintro e w1 ⟨rfl, rfl⟩
    go_wp2
    go_ret
    exact ⟨rfl, hbb⟩
  | true =>
  cases b2 with
  | false =>
    rw [Bool.and_false, Bool.false_and, Bool.false_and, Bool.false_and] at hr
    subst hr
    go_enter Tryz.func38, Tryz.ntmps38
    go_wp2_with fail
    refine (H1.out _).mono ?_
    rintro e w1 ⟨rfl, rfl⟩
    go_wp2_with fail
    refine (H2.out _).mono ?_
    rintro e w1 ⟨rfl, rfl⟩
    go_wp2
    go_ret
    exact ⟨rfl, hbb⟩
  | true =>
  obtain ⟨t0, t1, -⟩ := kk.all
  cases b3 with
  | false =>
    rw [Bool.and_false, Bool.false_and, Bool.false_and] at hr
    subst hr
    go_enter Tryz.func38, Tryz.ntmps38
    go_wp2_with fail
    refine (H1.out _).mono ?_
    rintro e w1 ⟨rfl, rfl⟩
    go_wp2_with fail
    refine (H2.out _).mono ?_
    rintro e w1 ⟨rfl, rfl⟩
    go_wp2_with fail
    refine (H3.out _).mono ?_
    rintro e w1 ⟨rfl, b⟩
    replace hbb := hbb.trans (b.mono (by simp))
    clear b t0 t1
    go_wp2
    go_ret
    exact ⟨rfl, hbb⟩
  | true =>
    rw [Bool.true_and, Bool.true_and, Bool.true_and] at hr
    by_cases h60 : S.length ≤ 60
    · rw [decide_eq_true h60, Bool.true_and] at hr
      have HR := Lib.hid hr
      clear hr
      go_enter Tryz.func38, Tryz.ntmps38
      go_wp2_with fail
      refine (H1.out _).mono ?_
      rintro e w1 ⟨rfl, rfl⟩
      go_wp2_with fail
      refine (H2.out _).mono ?_
      rintro e w1 ⟨rfl, rfl⟩
      go_wp2_with fail
      refine (H3.out _).mono ?_
      rintro e w1 ⟨rfl, b⟩
      replace hbb := hbb.trans (b.mono (by simp))
      have kk1 := kk.below b kk.lt
      clear b t0 t1 kk
      obtain ⟨t0, t1, -⟩ := kk1.all
      go_wp2_with fail
      refine (contains_any w1 B A S c (HH.out.below (hbb.mono hB)) (Nat.le_trans hB hbb.size) (by omega) (fun s => !psB s) 73 #[] eg (fun W s _ => wrong_any W s)).mono ?_
      rintro e w2 ⟨rfl, b⟩
      replace hbb := hbb.trans (b.mono hbb.size)
      clear b t0 t1
      rw [any_not, ← HR.out]
      cases r
      all_goals
        go_wp2
        go_ret
        exact ⟨rfl, hbb⟩
    · have h60' : decide ((S.length : Int) ≤ 60) = false := by simp; omega
      rw [decide_eq_false h60, Bool.false_and] at hr
      subst hr
      go_enter Tryz.func38, Tryz.ntmps38
      go_wp2_with fail
      refine (H1.out _).mono ?_
      rintro e w1 ⟨rfl, rfl⟩
      go_wp2_with fail
      refine (H2.out _).mono ?_
      rintro e w1 ⟨rfl, rfl⟩
      go_wp2_with fail
      refine (H3.out _).mono ?_
      rintro e w1 ⟨rfl, b⟩
      replace hbb := hbb.trans (b.mono (by simp))
      have kk1 := kk.below b kk.lt
      clear b t0 t1 kk
      obtain ⟨t0, t1, -⟩ := kk1.all
      go_wp2
      go_ret
      exact ⟨rfl, hbb⟩
end Go.Proofs.YtebdkmlganalaaaGreatDoor

namespace Go.Proofs.YtebdkmlganalaaaGreatDoor
open Go.RowKit

section
variable {P : Program} {md : Region.Mode} {ops : Array Oper} {Q : Exit → Act → World → Prop}

def setAll (ks : List Nat) (listed : Array Bool) : Array Bool := ks.foldl (fun b k => b.setIfInBounds k true) listed
theorem headB_set {ops : Array Oper} : ∀ (ks : List Nat) (listed l2 : Array Bool), headB md ops ks listed = some l2 → setAll ks listed = l2
  | [], _, _, h => by simp only [headB, Option.some.injEq] at h; exact h
  | k :: ks, listed, l2, h => by
    unfold headB at h
    split at h
    · exact headB_set ks _ _ h
    · cases h
/-- What is not listed is among the late ones. -/
def lateB (n : Nat) (fs : List Nat) (listed : Array Bool) : Bool := (List.range n).all fun j => listed.getD j false || fs.contains j

/-- What may come up in any order, f operations; behind each S holds; then the reads gs, and ts, one at a time. -/
def wpBush (P : Program) (l : List Oper) (S : World → Prop) (Q : Exit → Act → World → Prop) (gs ts : List Nat) : Nat → Array Bool → Act → World → Prop
  | 0, listed, a, w => lateB l.toArray.size (gs ++ ts) listed = true ∧ (headB .any l.toArray gs listed).isSome = true ∧ tailB .any l.toArray ts (setAll gs listed) = true ∧
      wpHeld P l.toArray (fun _ => True) (fun a' => wpList P l.toArray Q (pick l ts) a' w) (pick l gs) a
  | f + 1, listed, a, w => Region.ready .any l.toArray listed ≠ [] ∧ ∀ i ∈ Region.ready .any l.toArray listed,
      wpList P l.toArray (Exit.then (fun a' w' => S w' ∧ wpBush P l S Q gs ts f (listed.setIfInBounds i true) a' w') Q) (pick l [i]) a w

section
variable {l : List Oper} {S : World → Prop} {gs ts : List Nat} {listed : Array Bool} {a : Act} {w : World} {f : Nat}
theorem wpBush_end (hL : lateB l.toArray.size (gs ++ ts) listed = true) (hG : (headB .any l.toArray gs listed).isSome = true) (hB : tailB .any l.toArray ts (setAll gs listed) = true) (h : wpHeld P l.toArray (fun _ => True) (fun a' => wpList P l.toArray Q (pick l ts) a' w) (pick l gs) a) : wpBush P l S Q gs ts 0 listed a w := ⟨hL, hG, hB, h⟩
theorem wpBush_one (i : Nat) (hr : Region.ready .any l.toArray listed = [i])
    (h : wpList P l.toArray (Exit.then (fun a' w' => S w' ∧ wpBush P l S Q gs ts f (listed.setIfInBounds i true) a' w') Q) (pick l [i]) a w) : wpBush P l S Q gs ts (f + 1) listed a w :=
  ⟨by rw [hr]; simp, fun j hj => by rw [hr] at hj; simp at hj; subst hj; exact h⟩
theorem wpBush_two (i k : Nat) (hr : Region.ready .any l.toArray listed = [i, k])
    (h : wpList P l.toArray (Exit.then (fun a' w' => S w' ∧ wpBush P l S Q gs ts f (listed.setIfInBounds i true) a' w') Q) (pick l [i]) a w)
    (h2 : wpList P l.toArray (Exit.then (fun a' w' => S w' ∧ wpBush P l S Q gs ts f (listed.setIfInBounds k true) a' w') Q) (pick l [k]) a w) : wpBush P l S Q gs ts (f + 1) listed a w :=
  ⟨by rw [hr]; simp, fun j hj => by
    rw [hr] at hj
    simp only [List.mem_cons, List.not_mem_nil, or_false] at hj
    rcases hj with rfl | rfl <;> assumption⟩
theorem wpBush_three (i k m : Nat) (hr : Region.ready .any l.toArray listed = [i, k, m])
    (h : wpList P l.toArray (Exit.then (fun a' w' => S w' ∧ wpBush P l S Q gs ts f (listed.setIfInBounds i true) a' w') Q) (pick l [i]) a w)
    (h2 : wpList P l.toArray (Exit.then (fun a' w' => S w' ∧ wpBush P l S Q gs ts f (listed.setIfInBounds k true) a' w') Q) (pick l [k]) a w)
    (h3 : wpList P l.toArray (Exit.then (fun a' w' => S w' ∧ wpBush P l S Q gs ts f (listed.setIfInBounds m true) a' w') Q) (pick l [m]) a w) : wpBush P l S Q gs ts (f + 1) listed a w :=
  ⟨by rw [hr]; simp, fun j hj => by
    rw [hr] at hj
    simp only [List.mem_cons, List.not_mem_nil, or_false] at hj
    rcases hj with rfl | rfl | rfl <;> assumption⟩
end

theorem wpAnyE_any {ops : Array Oper} {S : World → Prop} {late : Nat → Bool} (hS : ∀ w, S w) : ∀ (f : Nat) (listed : Array Bool) (a : Act) (w : World), wpAny P md ops Q f listed a w → wpAnyE P md ops Q S late f listed a w
  | 0, _, _, _, h => h
  | f + 1, _, _, _, h => ⟨h.1, fun i hi => wpOp_mono (fun a' w' h' => ⟨fun _ => hS w', wpAnyE_any hS f _ a' w' h'⟩) (h.2 i hi)⟩

/-- What can still come is late. -/
theorem wpAnyE_late {ops : Array Oper} {S : World → Prop} {late : Nat → Bool} : ∀ (f : Nat) (listed : Array Bool) (a : Act) (w : World), (∀ j, j < ops.size → listed.getD j false = false → late j = true) → wpAny P md ops Q f listed a w → wpAnyE P md ops Q S late f listed a w
  | 0, _, _, _, _, h => h
  | f + 1, listed, _, _, hl, h => by
    refine ⟨h.1, fun i hi => wpOp_mono (fun a' w' h' => ⟨fun hf => ?_, ?_⟩) (h.2 i hi)⟩
    · obtain ⟨hn, o, ho, _⟩ := mem_ready.1 hi
      have hlt : i < ops.size := by
        rcases Nat.lt_or_ge i ops.size with h1 | h1
        · exact h1
        · rw [Array.getElem?_eq_none h1] at ho; cases ho
      rw [hl i hlt (getD_both hn)] at hf
      cases hf
    · refine wpAnyE_late f _ a' w' (fun j hj hjl => hl j hj ?_) h'
      by_cases hij : i = j
      · subst hij
        obtain ⟨hn, _⟩ := mem_ready.1 hi
        exact getD_both hn
      · rw [getD_set_ne false hij] at hjl; exact hjl

theorem wpAnyE_bush {l : List Oper} {S : World → Prop} {gs ts : List Nat} (hsel : Region.noSelect l.toArray = true) (hQ : ∀ c (d : Option Tmp) (v : Value) a w, Q (.panic c) (a.put d v) w → Q (.panic c) a w) :
    ∀ (f : Nat) (listed : Array Bool) (a : Act) (w : World), Closed .any l.toArray listed →
    wpBush P l S Q gs ts f listed a w → wpAnyE P .any l.toArray Q S (fun j => (gs ++ ts).contains j) (f + (gs.length + ts.length)) listed a w
  | 0, listed, a, w, hc, h => by
    rw [Nat.zero_add]
    obtain ⟨hb, h1, h2, h3⟩ := h
    cases h4 : headB .any l.toArray gs listed with
    | none => rw [h4] at h1; cases h1
    | some l2 =>
      have hl2 := headB_set _ _ _ h4
      rw [hl2] at h2
      refine wpAnyE_late _ _ _ _ (fun j hj hjl => ?_) ?_
      · have := List.all_eq_true.1 hb j (by simpa using hj)
        rw [hjl, Bool.false_or] at this
        exact this
      refine wpAny_of_E (S := fun _ => True) (late := fun _ => false) _ _ _ _ ?_
      refine wpAnyE_held (P := P) (Q := Q) (md := .any) (w := w) (S := fun _ => True) (late := fun _ => false) (K := fun a' => wpList P l.toArray Q (pick l ts) a' w) (hs := gs) (g := ts.length) hsel hQ
        (fun j i hi hj => by cases hj) (fun i hi => rfl) trivial
        (fun a' ha' => wpAnyE_any (fun _ => trivial) _ _ _ _ (wpAny_tail ts l2 a' w h2 ha')) gs listed a (fun k hk => hk) hc h4 h3
  | f + 1, listed, a, w, hc, h => by
    rw [show f + 1 + (gs.length + ts.length) = (f + (gs.length + ts.length)) + 1 by omega]
    refine ⟨fun h0 => absurd h0 h.1, fun i hi => ?_⟩
    obtain ⟨_, o, h0, _⟩ := mem_ready.1 hi
    have hp : pick l [i] = [o] := by
      have : l[i]? = some o := by simpa using h0
      simp [pick, this]
    have h2 := h.2 i hi
    rw [hp] at h2
    exact wpOp_mono (fun a' w' h' => ⟨fun _ => h'.1, wpAnyE_bush hsel hQ f _ a' w' (hc.set hi) h'.2⟩) (wpOp_of_one h0 h2)

def bushB (l : List Oper) (hs fs : List Nat) (n : Nat) : Bool :=
  Region.noSelect l.toArray && decide (hs.length + n + fs.length = l.length) && waitB .any l.toArray fs hs && (hs.all fun i => !fs.contains i) && (headB .any l.toArray hs (Array.replicate l.length false)).isSome

/-- The reads of a region, taken first, keep the state closed. -/
theorem headB_closed {l : List Oper} : ∀ (ks : List Nat) (listed l2 : Array Bool), Closed md l.toArray listed → headB md l.toArray ks listed = some l2 → Closed md l.toArray l2
  | [], _, _, hc, h => by simp only [headB, Option.some.injEq] at h; subst h; exact hc
  | k :: ks, listed, l2, hc, h => by
    unfold headB at h
    split at h
    · rename_i hrf
      simp only [Bool.and_eq_true] at hrf
      exact headB_closed ks _ _ (hc.set (by simpa using hrf.1)) h
    · cases h

/-- A REGION THAT DRAWS ITS ORDER: the reads 'hs', whose values hold as long as S does; then n operations in any order, behind each of which S holds; then the reads 'gs' and 'ts', one at a time: these wait for all of 'hs'. -/
theorem wp_region_bush {id : Nat} {l : List Oper} {a : Act} {w : World} (S : World → Prop) (hs : List Nat) (n : Nat) (gs ts : List Nat) (hm : P.follows .mixedOrders = true) (hB : bushB l hs (gs ++ ts) n = true)
    (hQ : ∀ c (d : Option Tmp) (v : Value) a w, Q (.panic c) (a.put d v) w → Q (.panic c) a w) (hS : S w.drew)
    (h : wpHeld P l.toArray S (fun a' => wpBush P l S Q gs ts n (setAll hs (Array.replicate l.length false)) a' w.drew) (pick l hs) a) : (Code.region id l.toArray true).wp P Q a w := by
  simp only [bushB, Bool.and_eq_true, decide_eq_true_eq] at hB
  obtain ⟨⟨⟨⟨hsel, hlen⟩, hw⟩, hnf⟩, hrest⟩ := hB
  cases h2 : headB .any l.toArray hs (Array.replicate l.length false) with
  | none => rw [h2] at hrest; cases hrest
  | some l2 =>
    have hl2 := headB_set _ _ _ h2
    rw [hl2] at h
    have hc0 : Closed .any l.toArray (Array.replicate l.length false) := fun j oj _ hl => by rw [getD_replicate_false] at hl; cases hl
    have hc2 := headB_closed _ _ _ hc0 h2
    refine wp_region_any hm ?_
    have key := wpAnyE_held (P := P) (Q := Q) (md := .any) (w := w.drew) (S := S) (late := fun j => (gs ++ ts).contains j) (hs := hs) (g := n + (gs.length + ts.length)) hsel hQ
      (fun j i hi hj => List.all_eq_true.1 (List.all_eq_true.1 hw j (List.contains_iff_mem.1 hj)) i hi) (fun i hi => by have := List.all_eq_true.1 hnf i hi; cases hc : (gs ++ ts).contains i; rfl; rw [hc] at this; cases this) hS
      (fun a' ha' => wpAnyE_bush hsel hQ n l2 a' w.drew hc2 ha') hs (Array.replicate l.length false) a (fun k hk => hk) hc0 h2 h
    have k3 := wpAny_of_E _ _ _ _ key
    rw [List.length_append] at hlen
    have : l.length = hs.length + (n + (gs.length + ts.length)) := by omega
    rw [← this] at k3
    have hsz : l.toArray.size = l.length := by simp
    rw [hsz]
    exact k3

/-- The library's law, its world written as the walk wants it. -/
theorem wp_region_tailB {id : Nat} {l : List Oper} {a : Act} {w : World} (n : Nat) (hm : P.follows .mixedOrders = true) (hB : Region.lexTailB .any l.toArray n = true)
    (h : wpStill P l.toArray w.drew (fun a' => wpList P l.toArray Q (l.drop n) a' w.drew) (l.take n) a) : (Code.region id l.toArray true).wp P Q a w :=
  wp_region_still_tail n hm hB h

/-- append(v, x...): v the call's own, x a slice that may be nil. -/
theorem wpList_append_any {w : World} {rest : List Oper} {o : Oper} {a : Act} (hgd : o.guard = none) (s x : Operand) (t : TypeId)
    (ho : o.op = .call { callee := .builtin .append, args := #[s, x], argTypes := #[t, t] })
    (base : Nat) (e : TypeId) (i : TypeInfo) (z : Value) (size bytes : Nat) (ht : P.underlying t = some (.slice e)) (hi : P.info? e = some i) (hz : i.zero = some z)
    (hsize : i.size = size) (hby : i.bytes = bytes) (hzs : z.cells.size = size) (hsz : 0 < size)
    (v : Value) (n : Nat) (xs : List Value) (hs : a.eval s = v) (hown : w.ownsRow base e size v n xs)
    (A : Option Addr) (m c : Nat) (news : List Value) (hx : a.eval x = .slice A m c) (hl : news.length = m * size) (hnews : ∀ j u, news[j]? = some u → ∃ ad, A = some ad ∧ w.cell? (ad.add j) = some u) (h1 : ∀ u ∈ news, u.oneCell' = true)
    (h63 : n + m ≤ maxLen) (hbytes : (n + m) * bytes ≤ 140737488355328) (hbase : base ≤ w.heap.size)
    (h : ∀ v' w', w'.ownsRow base e size v' (n + m) (xs ++ news) → w.grownBy w' v.ownBlock → (v'.ownBlock = v.ownBlock ∨ v'.ownBlock = some w.heap.size) → wpList P ops Q rest (a.put o.dst v') w') :
    wpList P ops Q (o :: rest) a w := by
  cases A with
  | some ad =>
    refine wpList_append_own_at w hgd s x t ho base e i z size bytes ht hi hz hsize hby hzs hsz v n xs hs hown ad m c news hx hl (fun j u hj => ?_) h1 h63 hbytes hbase (fun v' w' h2 h3 _ h5 => h v' w' h2 h3 h5)
    obtain ⟨ad', e1, e2⟩ := hnews j u hj
    injection e1 with e1
    rw [e1]
    exact e2
  | none =>
    have hn : news = [] := by
      match news, hnews with
      | [], _ => rfl
      | u :: us, hnews => obtain ⟨_, e1, _⟩ := hnews 0 u rfl; cases e1
    subst hn
    have hm : m = 0 := by
      rcases Nat.eq_zero_or_pos m with h0 | h0
      · exact h0
      · have := Nat.mul_pos h0 hsz
        simp at hl
        omega
    subst hm
    refine wpList_plain hgd fun K hK => ?_
    have hr : (Builtin.append_ #[t, t] o.type #[v, .slice none 0 c]).run P w = .ok v w := by
      rcases hown.2 with ⟨rfl, rfl⟩ | ⟨g, cap, cur, rfl, _, _, hnc, _⟩
      · simp [Builtin.append_, run_underlying ht, sizeOf, typeInfo, hi, Builtin.lenOf, Builtin.firstCells]
      · simp [Builtin.append_, run_underlying ht, sizeOf, typeInfo, hi, Builtin.lenOf, Builtin.firstCells, hnc, storeCells]
    unfold Oper.wp execOp
    simp only [ho, resolve, invoke, builtin, Sem.run_bind, Sem.run_pure, Result.andThen_ok, List.map_toArray, List.map_cons, List.map_nil, hs, hx, hr]
    exact hK _ _ (h v w (by simpa using hown) ⟨rfl, rfl, rfl, Nat.le_refl _, fun _ _ _ => rfl⟩ (.inl rfl))
end
end Go.Proofs.YtebdkmlganalaaaGreatDoor
