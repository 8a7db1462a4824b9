/- Lengths and beginnings of a matter's text (plain). Rows of the call's own while a builder is written. -/
import Derived.Test.YtknchlpcpgflkaaGreatDoorLGBI
import Derived.Test.YtknchlpcpgflkaaGreatDoorLGAU
namespace Go.Proofs.YtknchlpcpgflkaaGreatDoor
open Go.RowKit Go.Shelf

theorem isB_wf {n : Int} (h : isB n = true) : wf64 n := by
  have := (isB_iff n).1 h
  exact ⟨by omega, by omega⟩
theorem upB_wf : ∀ (l : List Int) (a : Int), 0 ≤ a → upB a l = true → ∀ n ∈ l, wf64 n
  | [], _, _, _, n, hn => by simp at hn
  | x :: xs, a, h0, h, n, hn => by
    have h' : (decide (a ≤ x ∧ x ≤ 1000000) && upB x xs) = true := h
    rw [Bool.and_eq_true, decide_eq_true_eq] at h'
    rcases List.mem_cons.1 hn with rfl | hn
    · exact ⟨by omega, by omega⟩
    · exact upB_wf xs x (by omega) h'.2 n hn
theorem limI_wf {x : Lm} (h : prB x = true) : ∀ n ∈ limI x, wf64 n := by
  obtain ⟨_, h1, h2, _, h3⟩ := prB_iff.1 h
  have h1' := (isB_iff _).1 h1
  have h2' := ptB_iff.1 h2
  intro n hn
  unfold limI at hn
  rcases List.mem_cons.1 hn with rfl | hn
  · exact ⟨by omega, by omega⟩
  rcases List.mem_cons.1 hn with rfl | hn
  · exact ⟨by omega, by omega⟩
  rcases List.mem_cons.1 hn with rfl | hn
  · exact ⟨by omega, by omega⟩
  obtain ⟨s, hs, hn⟩ := List.mem_flatMap.1 hn
  have := psB_iff.1 (h3 s hs)
  simp at hn
  rcases hn with rfl | rfl <;> exact ⟨by omega, by omega⟩
theorem sum_x {a b : ByteArray} {A B : List UInt8} (ha : a = bs A) (hb : b = bs B) (h : A.length + B.length ≤ 9223372036854775807) (W : World) : (Op.stringOp .add a b).run Tryz.prog W = .ok (.string (bs (A ++ B))) W := by
  subst ha hb
  exact sum_bs A B h W
theorem name_len {s : ByteArray} (h : nameB s = true) : (sL s).length ≤ 24 := by
  unfold nameB nmB at h
  rw [Bool.and_eq_true, Bool.and_eq_true, decide_eq_true_eq] at h
  exact h.2.2

theorem lineL_len {f : List UInt8} {l : List Int} (h : ∀ n ∈ l, wf64 n) : (lineL f l).length ≤ f.length + (l.length * 21 + 1) := by
  have := numsL_len l h
  simp only [lineL, List.length_append, List.length_cons, List.length_nil]
  omega
theorem rtB_out {o : Int} {r : Rt} (h : rtB o r = true) : (sL r.1).length ≤ 24 ∧ wf64 r.2 := by
  unfold rtB at h
  rw [Bool.and_eq_true, Bool.and_eq_true] at h
  exact ⟨name_len h.1, isB_wf h.2.2⟩
theorem rtsL_len {o : Int} : ∀ (l : List Rt), (∀ r ∈ l, rtB o r = true) → (rtsL l).length ≤ l.length * 60
  | [], _ => by simp [rtsL]
  | r :: l, h => by
    obtain ⟨h1, h2⟩ := rtB_out (h r List.mem_cons_self)
    have ih := rtsL_len l (fun x hx => h x (List.mem_cons_of_mem _ hx))
    have e := lineL_len (f := rightL ++ sL r.1) (l := [r.2]) (by intro n hn; rw [List.mem_singleton] at hn; subst hn; exact h2)
    have e6 : rightL.length = 6 := rfl
    rw [List.length_append, e6] at e
    show (lineL (rightL ++ sL r.1) [r.2] ++ rtsL l).length ≤ _
    rw [List.length_append]
    simp only [List.length_cons, List.length_nil] at e ⊢
    omega
theorem rtsL_take {l : List Rt} {k : Nat} {r : Rt} (h : l[k]? = some r) : rtsL (l.take (k + 1)) = rtsL (l.take k) ++ lineL (rightL ++ sL r.1) [r.2] := by
  rw [take_snoc' h]
  simp [rtsL]
theorem ints_one {w : World} {g : Nat} {v : Int} (h : Blk w g 3 #[.int .i64 v]) : IntsAt w w.heap.size (some ⟨g, 0, none⟩) [v] := fun i x hi => by
  cases i with
  | zero =>
    simp at hi
    subst hi
    exact ⟨g, 0, rfl, h.lt, h.cell 0⟩
  | succ i => simp at hi

theorem limI_len (x : Lm) : (limI x).length = 3 + 2 * x.S.length := by
  have : ∀ S : List Stp2, (S.flatMap fun s => [s.1, s.2]).length = 2 * S.length := by
    intro S
    induction S with
    | nil => rfl
    | cons s S ih => simp only [List.flatMap_cons, List.length_append, List.length_cons, List.length_nil, ih]; omega
  simp only [limI, List.length_cons, this]
  omega
theorem lmsL_len : ∀ (l : List Lm), (∀ x ∈ l, prB x = true) → (lmsL l).length ≤ l.length * 3000
  | [], _ => by simp [lmsL]
  | x :: l, h => by
    have hx := h x List.mem_cons_self
    have ih := lmsL_len l (fun y hy => h y (List.mem_cons_of_mem _ hy))
    have e := lineL_len (f := limitL ++ sL x.id) (l := limI x) (limI_wf hx)
    have hn := name_len (s := x.id) (prB_iff.1 hx).1
    have hS := (prB_iff.1 hx).2.2.2.1
    have e6 : limitL.length = 6 := rfl
    rw [List.length_append, e6, limI_len] at e
    show (lineL (limitL ++ sL x.id) (limI x) ++ lmsL l).length ≤ _
    rw [List.length_append]
    simp only [List.length_cons]
    omega
theorem lmsL_take {l : List Lm} {k : Nat} {x : Lm} (h : l[k]? = some x) : lmsL (l.take (k + 1)) = lmsL (l.take k) ++ lineL (limitL ++ sL x.id) (limI x) := by
  rw [take_snoc' h]
  simp [lmsL]
theorem limI_take {l : List Stp2} {k : Nat} {s : Stp2} (h : l[k]? = some s) : ((l.take (k + 1)).flatMap fun s => [s.1, s.2]) = ((l.take k).flatMap fun s => [s.1, s.2]) ++ [s.1, s.2] := by
  rw [take_snoc' h]
  simp
end Go.Proofs.YtknchlpcpgflkaaGreatDoor

namespace Go.Proofs.YtknchlpcpgflkaaGreatDoor
open Go.RowKit Go.Shelf

theorem KeepB.own {b base size n : Nat} {e : TypeId} {v : Value} {xs : List Value} {w W : World} (hk : KeepB b w W) (hb : b < base) (ht : e ≠ 5) (h : w.ownsRow base e size v n xs) : W.ownsRow base e size v n xs := by
  refine ⟨h.1, ?_⟩
  rcases h.2 with h2 | ⟨g, cap, cur, hv, hg, hh, h3, h4, h5, h6⟩
  · exact .inl h2
  · exact .inr ⟨g, cap, cur, hv, hg, hk.2 g e cur (by omega) ht hh, h3, h4, h5, h6⟩
end Go.Proofs.YtknchlpcpgflkaaGreatDoor
