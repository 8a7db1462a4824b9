/- slices.IndexFunc and ContainsFunc at the types of migrations; slices.Max. Package matter's Valid. -/
import Derived.Test.YtebdkmlganalaaaGreatDoorKTopAccruedMe
import Derived.Test.YtebdkmlganalaaaGreatDoorKTopAccruedGAD
import Derived.Test.YtebdkmlganalaaaGreatDoorKTopAccruedQx
namespace Go.Proofs.YtebdkmlganalaaaGreatDoor
open Go.RowKit Go.Shelf

theorem idx_at {α : Type} {p : α → Bool} {S : List α} {k : Nat} {s : α} (h : S[k]? = some s) (hp : p s = true) : S.any p = true := List.any_eq_true.2 ⟨s, List.mem_of_getElem? h, hp⟩

set_option maxHeartbeats 1000000 in
set_option maxRecDepth 100000 in
theorem indexZ_any (w : World) (B : Nat) (A : Option Addr) (S : List Int) (c : Nat) (h : IntsAt w B A S) (hB : B ≤ w.heap.size) (hl : S.length ≤ 4611686018427387904) (p : Int → Bool) (g : Nat) (lb : Array Value)
    (eg : ∀ args w, (callFunc g args).run Tryz.prog w = .ok (.enter g args) w)
    (hp : ∀ W s, s ∈ S → Below w.heap.size w W → Calls Tryz.prog g (#[.int .i64 s] ++ lb) W fun e w' => e = .returned (.bool (p s)) ∧ Below W.heap.size W w') :
    Calls Tryz.prog 117 #[.slice A S.length c, .func (.func g) #[] lb] w fun e w' => ∃ n : Int, e = .returned (.int .i64 n) ∧ (S.any p = true → 0 ≤ n) ∧ (S.any p = false → n < 0) ∧ Below w.heap.size w w' := by
  have HP := Lib.hid hp
  clear hp
  go_enter Tryz.func117, Tryz.ntmps117
  go_wp2_with fail
  go_loopw [8] (fun i wr => ∃ k : Nat, k ≤ S.length ∧ i = .int .i64 (k : Int) ∧ Hid ((S.take k).any p = false) ∧ Below w.heap.size w wr) (fun i _ => S.length - (intOf i).toNat)
  case atStart => exact ⟨0, Nat.zero_le _, rfl, Lib.hid rfl, Below.refl _ _⟩
  case round =>
    obtain ⟨k, hk, rfl, hn, hb⟩ := hrel
    by_cases hlt : k < S.length
    · obtain ⟨s, hs⟩ : ∃ s, S[k]? = some s := ⟨_, List.getElem?_eq_getElem hlt⟩
      obtain ⟨gb, off, hA, hg, c0⟩ := h.below (hb.mono hB) k s hs
      subst hA
      have HC := HP.out wr s (List.mem_of_getElem? hs) hb
      have HS := Lib.hid hs
      have HCC := Lib.hid HC
      clear hs HC
      go_wp2_with fail
      cases hps : p s with
      | true =>
        have hcl := HCC.out
        rw [hps] at hcl
        have hany := Lib.hid (idx_at HS.out hps)
        clear hps HCC
        refine hcl.mono ?_
        rintro e w1 ⟨rfl, b1⟩
        replace hb := hb.trans (b1.mono hb.size)
        clear b1 hcl
        go_wp2
        go_ret
        exact ⟨_, rfl, fun _ => by omega, fun h0 => by rw [hany.out] at h0; (cases h0), hb⟩
      | false =>
        have hcl := HCC.out
        rw [hps] at hcl
        have hnx : (S.take (k + 1)).any p = false := by
          obtain ⟨h1, h2⟩ := List.getElem?_eq_some_iff.1 HS.out
          rw [List.take_succ_eq_append_getElem h1, h2, List.any_append, hn.out]
          simp [hps]
        have HN := Lib.hid hnx
        clear hps HCC hnx
        refine hcl.mono ?_
        rintro e w1 ⟨rfl, b1⟩
        replace hb := hb.trans (b1.mono hb.size)
        clear b1 hcl
        go_wp2
        go_roundw
        case rel => exact ⟨k + 1, by omega, by go_num, HN, hb⟩
        case measure => simp [intOf]; omega
    · obtain rfl : k = S.length := by omega
      have hno := hn.out
      rw [List.take_length] at hno
      have HN := Lib.hid hno
      clear hno hn
      go_wp2
      go_ret
      exact ⟨_, rfl, fun h0 => by rw [HN.out] at h0; (cases h0), fun _ => by omega, hb⟩

theorem containsZ_any (w : World) (B : Nat) (A : Option Addr) (S : List Int) (c : Nat) (h : IntsAt w B A S) (hB : B ≤ w.heap.size) (hl : S.length ≤ 4611686018427387904) (p : Int → Bool) (g : Nat) (lb : Array Value)
    (eg : ∀ args w, (callFunc g args).run Tryz.prog w = .ok (.enter g args) w)
    (hp : ∀ W s, s ∈ S → Below w.heap.size w W → Calls Tryz.prog g (#[.int .i64 s] ++ lb) W fun e w' => e = .returned (.bool (p s)) ∧ Below W.heap.size W w') :
    Calls Tryz.prog 98 #[.slice A S.length c, .func (.func g) #[] lb] w fun e w' => e = .returned (.bool (S.any p)) ∧ Below w.heap.size w w' := by
  have hi := indexZ_any w B A S c h hB hl p g lb eg hp
  clear h hp eg
  generalize S.any p = r at *
  have HI := Lib.hid hi
  clear hi
  cases r with
  | true =>
    go_enter Tryz.func98, Tryz.ntmps98
    go_wp2_with fail
    refine HI.out.mono ?_
    rintro e w1 ⟨n, rfl, h1, -, hb⟩
    have hn := h1 trivial
    clear h1 HI
    go_wp2
    go_ret
    exact ⟨rfl, hb⟩
  | false =>
    go_enter Tryz.func98, Tryz.ntmps98
    go_wp2_with fail
    refine HI.out.mono ?_
    rintro e w1 ⟨n, rfl, -, h2, hb⟩
    have hn := h2 trivial
    have d0 : decide (0 ≤ n) = false := by simp; omega
    clear h2 HI
    go_wp2
    go_ret
    exact ⟨rfl, hb⟩

set_option maxHeartbeats 1000000 in
set_option maxRecDepth 100000 in
theorem indexP_any (w : World) (B : Nat) (A : Option Addr) (S : List S2) (c : Nat) (h : PrsAt w B A S) (hB : B ≤ w.heap.size) (hl : S.length ≤ 4611686018427387904) (p : S2 → Bool) (g : Nat) (lb : Array Value)
    (eg : ∀ args w, (callFunc g args).run Tryz.prog w = .ok (.enter g args) w)
    (hp : ∀ W s, s ∈ S → Below w.heap.size w W → Calls Tryz.prog g (#[.agg #[.string s.1, .string s.2]] ++ lb) W fun e w' => e = .returned (.bool (p s)) ∧ Below W.heap.size W w') :
    Calls Tryz.prog 118 #[.slice A S.length c, .func (.func g) #[] lb] w fun e w' => ∃ n : Int, e = .returned (.int .i64 n) ∧ (S.any p = true → 0 ≤ n) ∧ (S.any p = false → n < 0) ∧ Below w.heap.size w w' := by
  have HP := Lib.hid hp
  clear hp
  go_enter Tryz.func118, Tryz.ntmps118
  go_wp2_with fail
  go_loopw [8] (fun i wr => ∃ k : Nat, k ≤ S.length ∧ i = .int .i64 (k : Int) ∧ Hid ((S.take k).any p = false) ∧ Below w.heap.size w wr) (fun i _ => S.length - (intOf i).toNat)
  case atStart => exact ⟨0, Nat.zero_le _, rfl, Lib.hid rfl, Below.refl _ _⟩
  case round =>
    obtain ⟨k, hk, rfl, hn, hb⟩ := hrel
    by_cases hlt : k < S.length
    · obtain ⟨s, hs⟩ : ∃ s, S[k]? = some s := ⟨_, List.getElem?_eq_getElem hlt⟩
      obtain ⟨gb, off, hA, hg, c0, c1⟩ := h.below (hb.mono hB) k s hs
      subst hA
      have HC := HP.out wr s (List.mem_of_getElem? hs) hb
      have HS := Lib.hid hs
      have HCC := Lib.hid HC
      clear hs HC
      go_wp2_with fail
      cases hps : p s with
      | true =>
        have hcl := HCC.out
        rw [hps] at hcl
        have hany := Lib.hid (idx_at HS.out hps)
        clear hps HCC
        refine hcl.mono ?_
        rintro e w1 ⟨rfl, b1⟩
        replace hb := hb.trans (b1.mono hb.size)
        clear b1 hcl
        go_wp2
        go_ret
        exact ⟨_, rfl, fun _ => by omega, fun h0 => by rw [hany.out] at h0; (cases h0), hb⟩
      | false =>
        have hcl := HCC.out
        rw [hps] at hcl
        have hnx : (S.take (k + 1)).any p = false := by
          obtain ⟨h1, h2⟩ := List.getElem?_eq_some_iff.1 HS.out
          rw [List.take_succ_eq_append_getElem h1, h2, List.any_append, hn.out]
          simp [hps]
        have HN := Lib.hid hnx
        clear hps HCC hnx
        refine hcl.mono ?_
        rintro e w1 ⟨rfl, b1⟩
        replace hb := hb.trans (b1.mono hb.size)
        clear b1 hcl
        go_wp2
        go_roundw
        case rel => exact ⟨k + 1, by omega, by go_num, HN, hb⟩
        case measure => simp [intOf]; omega
    · obtain rfl : k = S.length := by omega
      have hno := hn.out
      rw [List.take_length] at hno
      have HN := Lib.hid hno
      clear hno hn
      go_wp2
      go_ret
      exact ⟨_, rfl, fun h0 => by rw [HN.out] at h0; (cases h0), fun _ => by omega, hb⟩

theorem containsP_any (w : World) (B : Nat) (A : Option Addr) (S : List S2) (c : Nat) (h : PrsAt w B A S) (hB : B ≤ w.heap.size) (hl : S.length ≤ 4611686018427387904) (p : S2 → Bool) (g : Nat) (lb : Array Value)
    (eg : ∀ args w, (callFunc g args).run Tryz.prog w = .ok (.enter g args) w)
    (hp : ∀ W s, s ∈ S → Below w.heap.size w W → Calls Tryz.prog g (#[.agg #[.string s.1, .string s.2]] ++ lb) W fun e w' => e = .returned (.bool (p s)) ∧ Below W.heap.size W w') :
    Calls Tryz.prog 99 #[.slice A S.length c, .func (.func g) #[] lb] w fun e w' => e = .returned (.bool (S.any p)) ∧ Below w.heap.size w w' := by
  have hi := indexP_any w B A S c h hB hl p g lb eg hp
  clear h hp eg
  generalize S.any p = r at *
  have HI := Lib.hid hi
  clear hi
  cases r with
  | true =>
    go_enter Tryz.func99, Tryz.ntmps99
    go_wp2_with fail
    refine HI.out.mono ?_
    rintro e w1 ⟨n, rfl, h1, -, hb⟩
    have hn := h1 trivial
    clear h1 HI
    go_wp2
    go_ret
    exact ⟨rfl, hb⟩
  | false =>
    go_enter Tryz.func99, Tryz.ntmps99
    go_wp2_with fail
    refine HI.out.mono ?_
    rintro e w1 ⟨n, rfl, -, h2, hb⟩
    have hn := h2 trivial
    have d0 : decide (0 ≤ n) = false := by simp; omega
    clear h2 HI
    go_wp2
    go_ret
    exact ⟨rfl, hb⟩

set_option maxHeartbeats 1000000 in
set_option maxRecDepth 100000 in
theorem indexL_any (w : World) (B : Nat) (A : Option Addr) (S : List LmV) (c : Nat) (h : LmsAt w B A S) (hB : B ≤ w.heap.size) (hl : S.length ≤ 4611686018427387904) (p : LmV → Bool) (g : Nat) (lb : Array Value)
    (eg : ∀ args w, (callFunc g args).run Tryz.prog w = .ok (.enter g args) w)
    (hp : ∀ W s, s ∈ S → Below w.heap.size w W → Calls Tryz.prog g (#[.agg #[.string s.1.id, .int .i64 s.1.n, .int .i64 s.1.u, .int .i64 s.1.f, .slice s.2.1 s.1.S.length s.2.2]] ++ lb) W fun e w' => e = .returned (.bool (p s)) ∧ Below W.heap.size W w') :
    Calls Tryz.prog 119 #[.slice A S.length c, .func (.func g) #[] lb] w fun e w' => ∃ n : Int, e = .returned (.int .i64 n) ∧ (S.any p = true → 0 ≤ n) ∧ (S.any p = false → n < 0) ∧ Below w.heap.size w w' := by
  have HP := Lib.hid hp
  clear hp
  go_enter Tryz.func119, Tryz.ntmps119
  go_wp2_with fail
  go_loopw [8] (fun i wr => ∃ k : Nat, k ≤ S.length ∧ i = .int .i64 (k : Int) ∧ Hid ((S.take k).any p = false) ∧ Below w.heap.size w wr) (fun i _ => S.length - (intOf i).toNat)
  case atStart => exact ⟨0, Nat.zero_le _, rfl, Lib.hid rfl, Below.refl _ _⟩
  case round =>
    obtain ⟨k, hk, rfl, hn, hb⟩ := hrel
    by_cases hlt : k < S.length
    · obtain ⟨s, hs⟩ : ∃ s, S[k]? = some s := ⟨_, List.getElem?_eq_getElem hlt⟩
      obtain ⟨gb, off, hA, hg, c0, c1, c2, c3, c4, -⟩ := h.below (hb.mono hB) k s hs
      subst hA
      have HC := HP.out wr s (List.mem_of_getElem? hs) hb
      have HS := Lib.hid hs
      have HCC := Lib.hid HC
      clear hs HC
      go_wp2_with fail
      cases hps : p s with
      | true =>
        have hcl := HCC.out
        rw [hps] at hcl
        have hany := Lib.hid (idx_at HS.out hps)
        clear hps HCC
        refine hcl.mono ?_
        rintro e w1 ⟨rfl, b1⟩
        replace hb := hb.trans (b1.mono hb.size)
        clear b1 hcl
        go_wp2
        go_ret
        exact ⟨_, rfl, fun _ => by omega, fun h0 => by rw [hany.out] at h0; (cases h0), hb⟩
      | false =>
        have hcl := HCC.out
        rw [hps] at hcl
        have hnx : (S.take (k + 1)).any p = false := by
          obtain ⟨h1, h2⟩ := List.getElem?_eq_some_iff.1 HS.out
          rw [List.take_succ_eq_append_getElem h1, h2, List.any_append, hn.out]
          simp [hps]
        have HN := Lib.hid hnx
        clear hps HCC hnx
        refine hcl.mono ?_
        rintro e w1 ⟨rfl, b1⟩
        replace hb := hb.trans (b1.mono hb.size)
        clear b1 hcl
        go_wp2
        go_roundw
        case rel => exact ⟨k + 1, by omega, by go_num, HN, hb⟩
        case measure => simp [intOf]; omega
    · obtain rfl : k = S.length := by omega
      have hno := hn.out
      rw [List.take_length] at hno
      have HN := Lib.hid hno
      clear hno hn
      go_wp2
      go_ret
      exact ⟨_, rfl, fun h0 => by rw [HN.out] at h0; (cases h0), fun _ => by omega, hb⟩

theorem containsL_any (w : World) (B : Nat) (A : Option Addr) (S : List LmV) (c : Nat) (h : LmsAt w B A S) (hB : B ≤ w.heap.size) (hl : S.length ≤ 4611686018427387904) (p : LmV → Bool) (g : Nat) (lb : Array Value)
    (eg : ∀ args w, (callFunc g args).run Tryz.prog w = .ok (.enter g args) w)
    (hp : ∀ W s, s ∈ S → Below w.heap.size w W → Calls Tryz.prog g (#[.agg #[.string s.1.id, .int .i64 s.1.n, .int .i64 s.1.u, .int .i64 s.1.f, .slice s.2.1 s.1.S.length s.2.2]] ++ lb) W fun e w' => e = .returned (.bool (p s)) ∧ Below W.heap.size W w') :
    Calls Tryz.prog 100 #[.slice A S.length c, .func (.func g) #[] lb] w fun e w' => e = .returned (.bool (S.any p)) ∧ Below w.heap.size w w' := by
  have hi := indexL_any w B A S c h hB hl p g lb eg hp
  clear h hp eg
  generalize S.any p = r at *
  have HI := Lib.hid hi
  clear hi
  cases r with
  | true =>
    go_enter Tryz.func100, Tryz.ntmps100
    go_wp2_with fail
    refine HI.out.mono ?_
    rintro e w1 ⟨n, rfl, h1, -, hb⟩
    have hn := h1 trivial
    clear h1 HI
    go_wp2
    go_ret
    exact ⟨rfl, hb⟩
  | false =>
    go_enter Tryz.func100, Tryz.ntmps100
    go_wp2_with fail
    refine HI.out.mono ?_
    rintro e w1 ⟨n, rfl, -, h2, hb⟩
    have hn := h2 trivial
    have d0 : decide (0 ≤ n) = false := by simp; omega
    clear h2 HI
    go_wp2
    go_ret
    exact ⟨rfl, hb⟩

/-- The greatest so far. -/
def maxI (a : Int) (l : List Int) : Int := l.foldl max a
theorem maxI_snoc (a : Int) (l : List Int) (x : Int) : maxI a (l ++ [x]) = max (maxI a l) x := by unfold maxI; rw [List.foldl_append]; rfl
theorem maxI_lt {n : Int} : ∀ (l : List Int) (a : Int), maxI a l < n ↔ a < n ∧ ∀ x ∈ l, x < n
  | [], a => by simp [maxI]
  | x :: l, a => by
    show maxI (max a x) l < n ↔ _
    rw [maxI_lt l (max a x), Int.max_lt]
    simp only [List.mem_cons, forall_eq_or_imp, and_assoc]
set_option maxRecDepth 100000 in
theorem max_any (w : World) (B : Nat) (A : Option Addr) (a : Int) (S : List Int) (c : Nat) (h : IntsAt w B A S) (h0 : S[0]? = some a) (hB : B ≤ w.heap.size) (hl : S.length ≤ 1000000000) :
    Calls Tryz.prog 67 #[.slice A S.length c] w fun e w' => e = .returned (.int .i64 (maxI a S)) ∧ w' = w := by
  obtain ⟨g0, off0, hA0, hg0, c00⟩ := h 0 a h0
  have h1 : 1 ≤ S.length := by have := (List.getElem?_eq_some_iff.1 h0).1; omega
  have ht1 : maxI a (S.take 1) = a := by
    obtain ⟨hk, hx⟩ := List.getElem?_eq_some_iff.1 h0
    rw [List.take_succ_eq_append_getElem hk, hx]
    show max a a = a
    omega
  subst hA0
  obtain ⟨M, hM⟩ : ∃ m, maxI a S = m := ⟨_, rfl⟩
  rw [hM]
  have HM := Lib.hid hM
  have HH := Lib.hid h
  have HT1 := Lib.hid ht1
  clear h h0 ht1 hM
  simp only [Nat.add_zero] at c00
  have d1 : decide ((S.length : Int) < 1) = false := decide_eq_false (by omega)
  go_enter Tryz.func67, Tryz.ntmps67
  go_wp2_with fail
  clear d1
  go_loopw [3, 4] (fun v i wr => ∃ k : Nat, 1 ≤ k ∧ k ≤ S.length ∧ v = .int .i64 (maxI a (S.take k)) ∧ i = .int .i64 (k : Int) ∧ wr = w) (fun _ i _ => S.length - (intOf i).toNat)
  case atStart => exact ⟨1, Nat.le_refl _, h1, by rw [HT1.out], rfl, rfl⟩
  case round =>
    obtain ⟨k, hk1, hk, rfl, rfl, rfl⟩ := hrel
    by_cases hlt : k < S.length
    · obtain ⟨s, hs⟩ : ∃ s, S[k]? = some s := ⟨_, List.getElem?_eq_getElem hlt⟩
      obtain ⟨gb, off, hA, hg, c0⟩ := HH.out k s hs
      injection hA with hA
      injection hA with e1 e2
      subst e1
      subst e2
      have hm := fun ts t W => run_max2 (P := Tryz.prog) (maxI a (S.take k)) s (maxI a (S.take (k + 1))) (by rw [take_snoc' hs, maxI_snoc]) ts t W
      clear hs
      obtain ⟨mk, hmk⟩ : ∃ m, maxI a (S.take (k + 1)) = m := ⟨_, rfl⟩
      rw [hmk] at hm
      have HMK := Lib.hid hmk
      clear hmk
      go_wp2
      go_roundw
      case rel => exact ⟨k + 1, by omega, by omega, by rw [HMK.out], by go_num, trivial⟩
      case measure => simp [intOf]; omega
    · obtain rfl : k = S.length := by omega
      rw [List.take_length, HM.out]
      clear HM HH HT1
      go_wp2
      go_ret
      exact ⟨rfl, rfl⟩
end Go.Proofs.YtebdkmlganalaaaGreatDoor

namespace Go.Proofs.YtebdkmlganalaaaGreatDoor
open Go.RowKit Go.Shelf

/-- A domain in memory. -/
structure DmAt (w : World) (B : Nat) (d : List Fc) (A : Option Addr) : Prop where
  at_ : FcsAt w B A d
  nm : ∀ f ∈ d, f.name.size ≤ 9223372036854775807
theorem DmAt.below {w w' : World} {B : Nat} {d : List Fc} {A : Option Addr} (h : DmAt w B d A) (hb : Below B w w') : DmAt w' B d A := ⟨h.at_.below hb, h.nm⟩

set_option maxRecDepth 100000 in
set_option maxHeartbeats 8000000 in
theorem valid_any (w : World) (B : Nat) (m : Mt) (x : MtX) (h : MtAt w B m x) (hB : B ≤ w.heap.size) (hs : Sml m) (p : Pc) (y : PcX) (hp : PcAt w B p y) (hsp : SmlP p) (dm : List Fc) (e1 : Option Addr) (e2 : Nat) (hd : DmAt w B dm e1) (hdl : dm.length ≤ 1000000) :
    Calls Tryz.prog 10 #[.agg (mtC m x), .agg (pcC p y), .agg #[.slice e1 dm.length e2]] w fun e w' => e = .returned (.bool (vldB m p dm)) ∧ Below w.heap.size w w' := by
  obtain ⟨V, hV⟩ : ∃ V, vldB m p dm = V := ⟨_, rfl⟩
  rw [hV]
  have HV := Lib.hid hV
  clear hV
  have hfo := fun W (hb : Below w.heap.size w W) => formed_any W B _ _ (h.below (hb.mono hB)) (Nat.le_trans hB hb.size) hs
  have hpr := fun W (hb : Below w.heap.size w W) => proper_p W B _ _ (hp.below (hb.mono hB)) (Nat.le_trans hB hb.size) hsp
  have hdv := fun W (hb : Below w.heap.size w W) => fvalid_any W B e1 dm e2 (hd.below (hb.mono hB)).at_ (Nat.le_trans hB hb.size) (by omega) hd.nm
  have hft := fun W (hb : Below w.heap.size w W) => fits_any W B e1 dm e2 (hd.below (hb.mono hB)).at_ (Nat.le_trans hB hb.size) (by omega) hd.nm x.a1 m.cs x.c1 (h.below (hb.mono hB)).cs
  have s5 := hsp.1
  obtain ⟨id, o, cs, pr, st, mv, rs, ls⟩ := m
  obtain ⟨a1, c1, a2, c2, a3, c3, a4, c4, lv⟩ := x
  obtain ⟨name, ss, ms⟩ := p
  obtain ⟨b1, d1, b2, d2⟩ := y
  simp only at s5 hft
  show Calls Tryz.prog 10 #[.agg #[.string id, .int .i64 o, .slice a1 cs.length c1, .string pr, .int .i64 st, .slice a2 mv.length c2, .slice a3 rs.length c3, .slice a4 ls.length c4], .agg #[.string name, .slice b1 ss.length d1, .slice b2 ms.length d2], .agg #[.slice e1 dm.length e2]] w _
  have hfo2 : ∀ W, Below w.heap.size w W → Calls Tryz.prog 21 #[.agg #[.string id, .int .i64 o, .slice a1 cs.length c1, .string pr, .int .i64 st, .slice a2 mv.length c2, .slice a3 rs.length c3, .slice a4 ls.length c4]] W fun e w' => e = .returned (.bool (fmB ⟨id, o, cs, pr, st, mv, rs, ls⟩)) ∧ Below W.heap.size W w' := hfo
  have hpr2 : ∀ W, Below w.heap.size w W → Calls Tryz.prog 22 #[.agg #[.string name, .slice b1 ss.length d1, .slice b2 ms.length d2]] W fun e w' => e = .returned (.bool (pcB ⟨name, ss, ms⟩)) ∧ Below W.heap.size W w' := hpr
  have hb := ((below_self_alloc w (.cells #[.string id, .int .i64 o, .slice a1 cs.length c1, .string pr, .int .i64 st, .slice a2 mv.length c2, .slice a3 rs.length c3, .slice a4 ls.length c4] 27)).alloc (by simp) (.cells #[.string name, .slice b1 ss.length d1, .slice b2 ms.length d2] 34)).alloc (by simp; omega) (.cells #[.slice e1 dm.length e2] 37)
  have kx := ((Blk.new w 27 #[.string id, .int .i64 o, .slice a1 cs.length c1, .string pr, .int .i64 st, .slice a2 mv.length c2, .slice a3 rs.length c3, .slice a4 ls.length c4]).alloc (.cells #[.string name, .slice b1 ss.length d1, .slice b2 ms.length d2] 34)).alloc (.cells #[.slice e1 dm.length e2] 37)
  have kp := (Blk.new1 w (.cells #[.string id, .int .i64 o, .slice a1 cs.length c1, .string pr, .int .i64 st, .slice a2 mv.length c2, .slice a3 rs.length c3, .slice a4 ls.length c4] 27) 34 #[.string name, .slice b1 ss.length d1, .slice b2 ms.length d2]).alloc (.cells #[.slice e1 dm.length e2] 37)
  have kd := Blk.new2 w (.cells #[.string id, .int .i64 o, .slice a1 cs.length c1, .string pr, .int .i64 st, .slice a2 mv.length c2, .slice a3 rs.length c3, .slice a4 ls.length c4] 27) (.cells #[.string name, .slice b1 ss.length d1, .slice b2 ms.length d2] 34) 37 #[.slice e1 dm.length e2]
  have HFO := Lib.hid hfo2
  have HPR := Lib.hid hpr2
  have HDV := Lib.hid hdv
  have HFT := Lib.hid hft
  clear hfo hfo2 hpr hpr2 hdv hft h hp hs hsp hd
  obtain ⟨t0, t1, t2⟩ := kx.all
  go_enter Tryz.func10, Tryz.ntmps10
  go_upto_region 1 with fail
  generalize ((w.alloc (.cells #[.string id, .int .i64 o, .slice a1 cs.length c1, .string pr, .int .i64 st, .slice a2 mv.length c2, .slice a3 rs.length c3, .slice a4 ls.length c4] 27)).alloc (.cells #[.string name, .slice b1 ss.length d1, .slice b2 ms.length d2] 34)).alloc (.cells #[.slice e1 dm.length e2] 37) = W0 at *
  have HB0 := Lib.hid hb
  have KX := Lib.hid kx
  have KP := Lib.hid kp
  have KD := Lib.hid kd
  have hf := HFO.out W0 hb
  clear hb kx kp kd
  cases h1 : fmB ⟨id, o, cs, pr, st, mv, rs, ls⟩ with
  | false =>
    rw [h1] at hf
    have HF := Lib.hid hf
    clear hf
    go_wp2_with fail
    refine HF.out.mono ?_
    rintro e w1 ⟨rfl, b1⟩
    have hb1 := HB0.out.trans (b1.mono HB0.out.size)
    obtain rfl : false = V := by rw [← HV.out]; unfold vldB; simp [h1]
    clear t0 t1 t2
    go_wp2
    go_ret
    exact ⟨rfl, hb1⟩
  | true =>
    rw [h1] at hf
    have HF := Lib.hid hf
    have H1 := Lib.hid h1
    clear hf h1
    go_wp2_with fail
    refine HF.out.mono ?_
    rintro e w1 ⟨rfl, b1⟩
    have HB1 := Lib.hid (HB0.out.trans (b1.mono HB0.out.size))
    have KX1 := Lib.hid (KX.out.below b1 KX.out.lt)
    have KP1 := Lib.hid (KP.out.below b1 KP.out.lt)
    have KD1 := Lib.hid (KD.out.below b1 KD.out.lt)
    clear b1 t0 t1 t2
    obtain ⟨u0, u1, u2⟩ := KP1.out.all
    have hq := HPR.out w1 HB1.out
    cases h2 : pcB ⟨name, ss, ms⟩ with
    | false =>
      rw [h2] at hq
      have HQ := Lib.hid hq
      clear hq
      go_wp2_with fail
      refine HQ.out.mono ?_
      rintro e w2 ⟨rfl, b2⟩
      have hb2 := HB1.out.trans (b2.mono HB1.out.size)
      obtain rfl : false = V := by rw [← HV.out]; unfold vldB; simp [h2]
      clear u0 u1 u2
      go_wp2
      go_ret
      exact ⟨rfl, hb2⟩
    | true =>
      rw [h2] at hq
      have HQ := Lib.hid hq
      have H2 := Lib.hid h2
      clear hq h2
      go_wp2_with fail
      refine HQ.out.mono ?_
      rintro e w2 ⟨rfl, b2⟩
      have HB2 := Lib.hid (HB1.out.trans (b2.mono HB1.out.size))
      have KX2 := Lib.hid (KX1.out.below b2 KX1.out.lt)
      have KP2 := Lib.hid (KP1.out.below b2 KP1.out.lt)
      have KD2 := Lib.hid (KD1.out.below b2 KD1.out.lt)
      clear b2 u0 u1 u2
      obtain ⟨v0, v1, v2⟩ := KD2.out.all
      have hdd := HDV.out w2 HB2.out
      cases h3 : dmB dm with
      | false =>
        rw [h3] at hdd
        have HD := Lib.hid hdd
        clear hdd
        go_wp2_with fail
        refine HD.out.mono ?_
        rintro e w3 ⟨rfl, b3⟩
        have hb3 := HB2.out.trans (b3.mono HB2.out.size)
        obtain rfl : false = V := by rw [← HV.out]; unfold vldB; simp [h3]
        clear v0 v1 v2
        go_wp2
        go_ret
        exact ⟨rfl, hb3⟩
      | true =>
        rw [h3] at hdd
        have HD := Lib.hid hdd
        have H3 := Lib.hid h3
        clear hdd h3
        go_wp2_with fail
        refine HD.out.mono ?_
        rintro e w3 ⟨rfl, b3⟩
        have HB3 := Lib.hid (HB2.out.trans (b3.mono HB2.out.size))
        have KX3 := Lib.hid (KX2.out.below b3 KX2.out.lt)
        have KP3 := Lib.hid (KP2.out.below b3 KP2.out.lt)
        have KD3 := Lib.hid (KD2.out.below b3 KD2.out.lt)
        clear b3 v0 v1 v2
        obtain ⟨t0, t1, t2⟩ := KX3.out.all
        obtain ⟨u0, u1, u2⟩ := KP3.out.all
        obtain ⟨v0, v1, v2⟩ := KD3.out.all
        by_cases h4 : pr = name
        · have HNM := Lib.hid h4
          have e4 : (pr.toList == name.toList) = true := by rw [h4]; simp
          clear h4
          by_cases h5 : st < (ss.length : Int)
          · have hfit := HFT.out w3 HB3.out
            cases h6 : fitB dm cs with
            | false =>
              rw [h6] at hfit
              have HF2 := Lib.hid hfit
              clear hfit
              go_wp2_with fail
              refine HF2.out.mono ?_
              rintro e w4 ⟨rfl, b4⟩
              have hb4 := HB3.out.trans (b4.mono HB3.out.size)
              obtain rfl : false = V := by rw [← HV.out]; unfold vldB; simp [h6]
              clear t0 t1 t2 u0 u1 u2 v0 v1 v2
              go_wp2
              go_ret
              exact ⟨rfl, hb4⟩
            | true =>
              rw [h6] at hfit
              have HF2 := Lib.hid hfit
              obtain rfl : true = V := by rw [← HV.out]; unfold vldB; rw [H1.out, H2.out, H3.out, h6, decide_eq_true (show pr = name from HNM.out), decide_eq_true (show st < (ss.length : Int) from h5)]; rfl
              clear hfit
              go_wp2_with fail
              refine HF2.out.mono ?_
              rintro e w4 ⟨rfl, b4⟩
              have hb4 := HB3.out.trans (b4.mono HB3.out.size)
              clear t0 t1 t2 u0 u1 u2 v0 v1 v2
              go_wp2
              go_ret
              exact ⟨rfl, hb4⟩
          · have d5 : decide (st < (ss.length : Int)) = false := decide_eq_false h5
            have hb3 := HB3.out
            obtain rfl : false = V := by rw [← HV.out]; unfold vldB; simp [h5]
            have h5p : (ss.length : Int) ≤ st := by omega
            clear h5
            go_wp2
            go_ret
            exact ⟨rfl, hb3⟩
        · have e4 := str_no h4
          have hb3 := HB3.out
          obtain rfl : false = V := by rw [← HV.out]; unfold vldB; simp [h4]
          clear h4
          go_wp2
          go_ret
          exact ⟨rfl, hb3⟩
end Go.Proofs.YtebdkmlganalaaaGreatDoor
