/- slices.IndexFunc and ContainsFunc at the types of migrations; slices.Max. -/
import Derived.Test.YtknchlpcpgflkaaGreatDoorLGBG
import Derived.Test.YtknchlpcpgflkaaGreatDoorLGAD
namespace Go.Proofs.YtknchlpcpgflkaaGreatDoor
open Go.RowKit Go.Shelf

theorem idx_at {α : Type} {p : α → Bool} {S : List α} {k : Nat} {s : α} (h : S[k]? = some s) (hp : p s = true) : S.any p = true := List.any_eq_true.2 ⟨s, List.mem_of_getElem? h, hp⟩

set_option maxHeartbeats 1000000 in
set_option maxRecDepth 100000 in
theorem indexZ_any (w : World) (B : Nat) (A : Option Addr) (S : List Int) (c : Nat) (h : IntsAt w B A S) (hB : B ≤ w.heap.size) (hl : S.length ≤ 4611686018427387904) (p : Int → Bool) (g : Nat) (lb : Array Value)
    (eg : ∀ args w, (callFunc g args).run Tryz.prog w = .ok (.enter g args) w)
    (hp : ∀ W s, s ∈ S → Below w.heap.size w W → Calls Tryz.prog g (#[.int .i64 s] ++ lb) W fun e w' => e = .returned (.bool (p s)) ∧ Below W.heap.size W w') :
    Calls Tryz.prog 143 #[.slice A S.length c, .func (.func g) #[] lb] w fun e w' => ∃ n : Int, e = .returned (.int .i64 n) ∧ (S.any p = true → 0 ≤ n) ∧ (S.any p = false → n < 0) ∧ Below w.heap.size w w' := by
  have HP := Lib.hid hp
  clear hp
  go_enter Tryz.func143, Tryz.ntmps143
  go_wp2_with fail
  go_loopw [8] (fun i wr => ∃ k : Nat, k ≤ S.length ∧ i = .int .i64 (k : Int) ∧ Hid ((S.take k).any p = false) ∧ Below w.heap.size w wr) (fun i _ => S.length - (intOf i).toNat)
  case atStart => exact ⟨0, Nat.zero_le _, rfl, Lib.hid rfl, Below.refl _ _⟩
  case round =>
    obtain ⟨k, hk, rfl, hn, hb⟩ := hrel
    by_cases hlt : k < S.length
    · obtain ⟨s, hs⟩ : ∃ s, S[k]? = some s := ⟨_, List.getElem?_eq_getElem hlt⟩
      obtain ⟨gb, off, hA, hg, c0⟩ := h.below (hb.mono hB) k s hs
      subst hA
      have HC := HP.out wr s (List.mem_of_getElem? hs) hb
      have HS := Lib.hid hs
      have HCC := Lib.hid HC
      clear hs HC
      go_wp2_with fail
      cases hps : p s with
      | true =>
        have hcl := HCC.out
        rw [hps] at hcl
        have hany := Lib.hid (idx_at HS.out hps)
        clear hps HCC
        refine hcl.mono ?_
        rintro e w1 ⟨rfl, b1⟩
        replace hb := hb.trans (b1.mono hb.size)
        clear b1 hcl
        go_wp2
        go_ret
        exact ⟨_, rfl, fun _ => by omega, fun h0 => by rw [hany.out] at h0; (cases h0), hb⟩
      | false =>
        have hcl := HCC.out
        rw [hps] at hcl
        have hnx : (S.take (k + 1)).any p = false := by
          obtain ⟨h1, h2⟩ := List.getElem?_eq_some_iff.1 HS.out
          rw [List.take_succ_eq_append_getElem h1, h2, List.any_append, hn.out]
          simp [hps]
        have HN := Lib.hid hnx
        clear hps HCC hnx
        refine hcl.mono ?_
        rintro e w1 ⟨rfl, b1⟩
        replace hb := hb.trans (b1.mono hb.size)
        clear b1 hcl
        go_wp2
        go_roundw
        case rel => exact ⟨k + 1, by omega, by go_num, HN, hb⟩
        case measure => simp [intOf]; omega
    · obtain rfl : k = S.length := by omega
      have hno := hn.out
      rw [List.take_length] at hno
      have HN := Lib.hid hno
      clear hno hn
      go_wp2
      go_ret
      exact ⟨_, rfl, fun h0 => by rw [HN.out] at h0; (cases h0), fun _ => by omega, hb⟩

theorem containsZ_any (w : World) (B : Nat) (A : Option Addr) (S : List Int) (c : Nat) (h : IntsAt w B A S) (hB : B ≤ w.heap.size) (hl : S.length ≤ 4611686018427387904) (p : Int → Bool) (g : Nat) (lb : Array Value)
    (eg : ∀ args w, (callFunc g args).run Tryz.prog w = .ok (.enter g args) w)
    (hp : ∀ W s, s ∈ S → Below w.heap.size w W → Calls Tryz.prog g (#[.int .i64 s] ++ lb) W fun e w' => e = .returned (.bool (p s)) ∧ Below W.heap.size W w') :
    Calls Tryz.prog 104 #[.slice A S.length c, .func (.func g) #[] lb] w fun e w' => e = .returned (.bool (S.any p)) ∧ Below w.heap.size w w' := by
  have hi := indexZ_any w B A S c h hB hl p g lb eg hp
  clear h hp eg
  generalize S.any p = r at *
  have HI := Lib.hid hi
  clear hi
  cases r with
  | true =>
    go_enter Tryz.func104, Tryz.ntmps104
    go_wp2_with fail
    refine HI.out.mono ?_
    rintro e w1 ⟨n, rfl, h1, -, hb⟩
    have hn := h1 trivial
    clear h1 HI
    go_wp2
    go_ret
    exact ⟨rfl, hb⟩
  | false =>
    go_enter Tryz.func104, Tryz.ntmps104
    go_wp2_with fail
    refine HI.out.mono ?_
    rintro e w1 ⟨n, rfl, -, h2, hb⟩
    have hn := h2 trivial
    have d0 : decide (0 ≤ n) = false := by simp; omega
    clear h2 HI
    go_wp2
    go_ret
    exact ⟨rfl, hb⟩

set_option maxHeartbeats 1000000 in
set_option maxRecDepth 100000 in
theorem indexP_any (w : World) (B : Nat) (A : Option Addr) (S : List S2) (c : Nat) (h : PrsAt w B A S) (hB : B ≤ w.heap.size) (hl : S.length ≤ 4611686018427387904) (p : S2 → Bool) (g : Nat) (lb : Array Value)
    (eg : ∀ args w, (callFunc g args).run Tryz.prog w = .ok (.enter g args) w)
    (hp : ∀ W s, s ∈ S → Below w.heap.size w W → Calls Tryz.prog g (#[.agg #[.string s.1, .string s.2]] ++ lb) W fun e w' => e = .returned (.bool (p s)) ∧ Below W.heap.size W w') :
    Calls Tryz.prog 144 #[.slice A S.length c, .func (.func g) #[] lb] w fun e w' => ∃ n : Int, e = .returned (.int .i64 n) ∧ (S.any p = true → 0 ≤ n) ∧ (S.any p = false → n < 0) ∧ Below w.heap.size w w' := by
  have HP := Lib.hid hp
  clear hp
  go_enter Tryz.func144, Tryz.ntmps144
  go_wp2_with fail
  go_loopw [8] (fun i wr => ∃ k : Nat, k ≤ S.length ∧ i = .int .i64 (k : Int) ∧ Hid ((S.take k).any p = false) ∧ Below w.heap.size w wr) (fun i _ => S.length - (intOf i).toNat)
  case atStart => exact ⟨0, Nat.zero_le _, rfl, Lib.hid rfl, Below.refl _ _⟩
  case round =>
    obtain ⟨k, hk, rfl, hn, hb⟩ := hrel
    by_cases hlt : k < S.length
    · obtain ⟨s, hs⟩ : ∃ s, S[k]? = some s := ⟨_, List.getElem?_eq_getElem hlt⟩
      obtain ⟨gb, off, hA, hg, c0, c1⟩ := h.below (hb.mono hB) k s hs
      subst hA
      have HC := HP.out wr s (List.mem_of_getElem? hs) hb
      have HS := Lib.hid hs
      have HCC := Lib.hid HC
      clear hs HC
      go_wp2_with fail
      cases hps : p s with
      | true =>
        have hcl := HCC.out
        rw [hps] at hcl
        have hany := Lib.hid (idx_at HS.out hps)
        clear hps HCC
        refine hcl.mono ?_
        rintro e w1 ⟨rfl, b1⟩
        replace hb := hb.trans (b1.mono hb.size)
        clear b1 hcl
        go_wp2
        go_ret
        exact ⟨_, rfl, fun _ => by omega, fun h0 => by rw [hany.out] at h0; (cases h0), hb⟩
      | false =>
        have hcl := HCC.out
        rw [hps] at hcl
        have hnx : (S.take (k + 1)).any p = false := by
          obtain ⟨h1, h2⟩ := List.getElem?_eq_some_iff.1 HS.out
          rw [List.take_succ_eq_append_getElem h1, h2, List.any_append, hn.out]
          simp [hps]
        have HN := Lib.hid hnx
        clear hps HCC hnx
        refine hcl.mono ?_
        rintro e w1 ⟨rfl, b1⟩
        replace hb := hb.trans (b1.mono hb.size)
        clear b1 hcl
        go_wp2
        go_roundw
        case rel => exact ⟨k + 1, by omega, by go_num, HN, hb⟩
        case measure => simp [intOf]; omega
    · obtain rfl : k = S.length := by omega
      have hno := hn.out
      rw [List.take_length] at hno
      have HN := Lib.hid hno
      clear hno hn
      go_wp2
      go_ret
      exact ⟨_, rfl, fun h0 => by rw [HN.out] at h0; (cases h0), fun _ => by omega, hb⟩

theorem containsP_any (w : World) (B : Nat) (A : Option Addr) (S : List S2) (c : Nat) (h : PrsAt w B A S) (hB : B ≤ w.heap.size) (hl : S.length ≤ 4611686018427387904) (p : S2 → Bool) (g : Nat) (lb : Array Value)
    (eg : ∀ args w, (callFunc g args).run Tryz.prog w = .ok (.enter g args) w)
    (hp : ∀ W s, s ∈ S → Below w.heap.size w W → Calls Tryz.prog g (#[.agg #[.string s.1, .string s.2]] ++ lb) W fun e w' => e = .returned (.bool (p s)) ∧ Below W.heap.size W w') :
    Calls Tryz.prog 105 #[.slice A S.length c, .func (.func g) #[] lb] w fun e w' => e = .returned (.bool (S.any p)) ∧ Below w.heap.size w w' := by
  have hi := indexP_any w B A S c h hB hl p g lb eg hp
  clear h hp eg
  generalize S.any p = r at *
  have HI := Lib.hid hi
  clear hi
  cases r with
  | true =>
    go_enter Tryz.func105, Tryz.ntmps105
    go_wp2_with fail
    refine HI.out.mono ?_
    rintro e w1 ⟨n, rfl, h1, -, hb⟩
    have hn := h1 trivial
    clear h1 HI
    go_wp2
    go_ret
    exact ⟨rfl, hb⟩
  | false =>
    go_enter Tryz.func105, Tryz.ntmps105
    go_wp2_with fail
    refine HI.out.mono ?_
    rintro e w1 ⟨n, rfl, -, h2, hb⟩
    have hn := h2 trivial
    have d0 : decide (0 ≤ n) = false := by simp; omega
    clear h2 HI
    go_wp2
    go_ret
    exact ⟨rfl, hb⟩

set_option maxHeartbeats 1000000 in
set_option maxRecDepth 100000 in
theorem indexL_any (w : World) (B : Nat) (A : Option Addr) (S : List LmV) (c : Nat) (h : LmsAt w B A S) (hB : B ≤ w.heap.size) (hl : S.length ≤ 4611686018427387904) (p : LmV → Bool) (g : Nat) (lb : Array Value)
    (eg : ∀ args w, (callFunc g args).run Tryz.prog w = .ok (.enter g args) w)
    (hp : ∀ W s, s ∈ S → Below w.heap.size w W → Calls Tryz.prog g (#[.agg #[.string s.1.id, .int .i64 s.1.n, .int .i64 s.1.u, .int .i64 s.1.f, .slice s.2.1 s.1.S.length s.2.2]] ++ lb) W fun e w' => e = .returned (.bool (p s)) ∧ Below W.heap.size W w') :
    Calls Tryz.prog 145 #[.slice A S.length c, .func (.func g) #[] lb] w fun e w' => ∃ n : Int, e = .returned (.int .i64 n) ∧ (S.any p = true → 0 ≤ n) ∧ (S.any p = false → n < 0) ∧ Below w.heap.size w w' := by
  have HP := Lib.hid hp
  clear hp
  go_enter Tryz.func145, Tryz.ntmps145
  go_wp2_with fail
  go_loopw [8] (fun i wr => ∃ k : Nat, k ≤ S.length ∧ i = .int .i64 (k : Int) ∧ Hid ((S.take k).any p = false) ∧ Below w.heap.size w wr) (fun i _ => S.length - (intOf i).toNat)
  case atStart => exact ⟨0, Nat.zero_le _, rfl, Lib.hid rfl, Below.refl _ _⟩
  case round =>
    obtain ⟨k, hk, rfl, hn, hb⟩ := hrel
    by_cases hlt : k < S.length
    · obtain ⟨s, hs⟩ : ∃ s, S[k]? = some s := ⟨_, List.getElem?_eq_getElem hlt⟩
      obtain ⟨gb, off, hA, hg, c0, c1, c2, c3, c4, -⟩ := h.below (hb.mono hB) k s hs
      subst hA
      have HC := HP.out wr s (List.mem_of_getElem? hs) hb
      have HS := Lib.hid hs
      have HCC := Lib.hid HC
      clear hs HC
      go_wp2_with fail
      cases hps : p s with
      | true =>
        have hcl := HCC.out
        rw [hps] at hcl
        have hany := Lib.hid (idx_at HS.out hps)
        clear hps HCC
        refine hcl.mono ?_
        rintro e w1 ⟨rfl, b1⟩
        replace hb := hb.trans (b1.mono hb.size)
        clear b1 hcl
        go_wp2
        go_ret
        exact ⟨_, rfl, fun _ => by omega, fun h0 => by rw [hany.out] at h0; (cases h0), hb⟩
      | false =>
        have hcl := HCC.out
        rw [hps] at hcl
        have hnx : (S.take (k + 1)).any p = false := by
          obtain ⟨h1, h2⟩ := List.getElem?_eq_some_iff.1 HS.out
          rw [List.take_succ_eq_append_getElem h1, h2, List.any_append, hn.out]
          simp [hps]
        have HN := Lib.hid hnx
        clear hps HCC hnx
        refine hcl.mono ?_
        rintro e w1 ⟨rfl, b1⟩
        replace hb := hb.trans (b1.mono hb.size)
        clear b1 hcl
        go_wp2
        go_roundw
        case rel => exact ⟨k + 1, by omega, by go_num, HN, hb⟩
        case measure => simp [intOf]; omega
    · obtain rfl : k = S.length := by omega
      have hno := hn.out
      rw [List.take_length] at hno
      have HN := Lib.hid hno
      clear hno hn
      go_wp2
      go_ret
      exact ⟨_, rfl, fun h0 => by rw [HN.out] at h0; (cases h0), fun _ => by omega, hb⟩

theorem containsL_any (w : World) (B : Nat) (A : Option Addr) (S : List LmV) (c : Nat) (h : LmsAt w B A S) (hB : B ≤ w.heap.size) (hl : S.length ≤ 4611686018427387904) (p : LmV → Bool) (g : Nat) (lb : Array Value)
    (eg : ∀ args w, (callFunc g args).run Tryz.prog w = .ok (.enter g args) w)
    (hp : ∀ W s, s ∈ S → Below w.heap.size w W → Calls Tryz.prog g (#[.agg #[.string s.1.id, .int .i64 s.1.n, .int .i64 s.1.u, .int .i64 s.1.f, .slice s.2.1 s.1.S.length s.2.2]] ++ lb) W fun e w' => e = .returned (.bool (p s)) ∧ Below W.heap.size W w') :
    Calls Tryz.prog 106 #[.slice A S.length c, .func (.func g) #[] lb] w fun e w' => e = .returned (.bool (S.any p)) ∧ Below w.heap.size w w' := by
  have hi := indexL_any w B A S c h hB hl p g lb eg hp
  clear h hp eg
  generalize S.any p = r at *
  have HI := Lib.hid hi
  clear hi
  cases r with
  | true =>
    go_enter Tryz.func106, Tryz.ntmps106
    go_wp2_with fail
    refine HI.out.mono ?_
    rintro e w1 ⟨n, rfl, h1, -, hb⟩
    have hn := h1 trivial
    clear h1 HI
    go_wp2
    go_ret
    exact ⟨rfl, hb⟩
  | false =>
    go_enter Tryz.func106, Tryz.ntmps106
    go_wp2_with fail
    refine HI.out.mono ?_
    rintro e w1 ⟨n, rfl, -, h2, hb⟩
    have hn := h2 trivial
    have d0 : decide (0 ≤ n) = false := by simp; omega
    clear h2 HI
    go_wp2
    go_ret
    exact ⟨rfl, hb⟩

set_option maxHeartbeats 1000000 in
set_option maxRecDepth 100000 in
theorem indexM_any (w : World) (B : Nat) (A : Option Addr) (S : List I2) (c : Nat) (h : StopsAt w B A S) (hB : B ≤ w.heap.size) (hl : S.length ≤ 4611686018427387904) (p : I2 → Bool) (g : Nat) (lb : Array Value)
    (eg : ∀ args w, (callFunc g args).run Tryz.prog w = .ok (.enter g args) w)
    (hp : ∀ W s, s ∈ S → Below w.heap.size w W → Calls Tryz.prog g (#[.agg #[.int .i64 s.1, .int .i64 s.2]] ++ lb) W fun e w' => e = .returned (.bool (p s)) ∧ Below W.heap.size W w') :
    Calls Tryz.prog 141 #[.slice A S.length c, .func (.func g) #[] lb] w fun e w' => ∃ n : Int, e = .returned (.int .i64 n) ∧ (S.any p = true → 0 ≤ n) ∧ (S.any p = false → n < 0) ∧ Below w.heap.size w w' := by
  have HP := Lib.hid hp
  clear hp
  go_enter Tryz.func141, Tryz.ntmps141
  go_wp2_with fail
  go_loopw [8] (fun i wr => ∃ k : Nat, k ≤ S.length ∧ i = .int .i64 (k : Int) ∧ Hid ((S.take k).any p = false) ∧ Below w.heap.size w wr) (fun i _ => S.length - (intOf i).toNat)
  case atStart => exact ⟨0, Nat.zero_le _, rfl, Lib.hid rfl, Below.refl _ _⟩
  case round =>
    obtain ⟨k, hk, rfl, hn, hb⟩ := hrel
    by_cases hlt : k < S.length
    · obtain ⟨s, hs⟩ : ∃ s, S[k]? = some s := ⟨_, List.getElem?_eq_getElem hlt⟩
      obtain ⟨gb, off, hA, hg, c0, c1⟩ := h.below (hb.mono hB) k s hs
      subst hA
      have HC := HP.out wr s (List.mem_of_getElem? hs) hb
      have HS := Lib.hid hs
      have HCC := Lib.hid HC
      clear hs HC
      go_wp2_with fail
      cases hps : p s with
      | true =>
        have hcl := HCC.out
        rw [hps] at hcl
        have hany := Lib.hid (idx_at HS.out hps)
        clear hps HCC
        refine hcl.mono ?_
        rintro e w1 ⟨rfl, b1⟩
        replace hb := hb.trans (b1.mono hb.size)
        clear b1 hcl
        go_wp2
        go_ret
        exact ⟨_, rfl, fun _ => by omega, fun h0 => by rw [hany.out] at h0; (cases h0), hb⟩
      | false =>
        have hcl := HCC.out
        rw [hps] at hcl
        have hnx : (S.take (k + 1)).any p = false := by
          obtain ⟨h1, h2⟩ := List.getElem?_eq_some_iff.1 HS.out
          rw [List.take_succ_eq_append_getElem h1, h2, List.any_append, hn.out]
          simp [hps]
        have HN := Lib.hid hnx
        clear hps HCC hnx
        refine hcl.mono ?_
        rintro e w1 ⟨rfl, b1⟩
        replace hb := hb.trans (b1.mono hb.size)
        clear b1 hcl
        go_wp2
        go_roundw
        case rel => exact ⟨k + 1, by omega, by go_num, HN, hb⟩
        case measure => simp [intOf]; omega
    · obtain rfl : k = S.length := by omega
      have hno := hn.out
      rw [List.take_length] at hno
      have HN := Lib.hid hno
      clear hno hn
      go_wp2
      go_ret
      exact ⟨_, rfl, fun h0 => by rw [HN.out] at h0; (cases h0), fun _ => by omega, hb⟩

theorem containsM_any (w : World) (B : Nat) (A : Option Addr) (S : List I2) (c : Nat) (h : StopsAt w B A S) (hB : B ≤ w.heap.size) (hl : S.length ≤ 4611686018427387904) (p : I2 → Bool) (g : Nat) (lb : Array Value)
    (eg : ∀ args w, (callFunc g args).run Tryz.prog w = .ok (.enter g args) w)
    (hp : ∀ W s, s ∈ S → Below w.heap.size w W → Calls Tryz.prog g (#[.agg #[.int .i64 s.1, .int .i64 s.2]] ++ lb) W fun e w' => e = .returned (.bool (p s)) ∧ Below W.heap.size W w') :
    Calls Tryz.prog 97 #[.slice A S.length c, .func (.func g) #[] lb] w fun e w' => e = .returned (.bool (S.any p)) ∧ Below w.heap.size w w' := by
  have hi := indexM_any w B A S c h hB hl p g lb eg hp
  clear h hp eg
  generalize S.any p = r at *
  have HI := Lib.hid hi
  clear hi
  cases r with
  | true =>
    go_enter Tryz.func97, Tryz.ntmps97
    go_wp2_with fail
    refine HI.out.mono ?_
    rintro e w1 ⟨n, rfl, h1, -, hb⟩
    have hn := h1 trivial
    clear h1 HI
    go_wp2
    go_ret
    exact ⟨rfl, hb⟩
  | false =>
    go_enter Tryz.func97, Tryz.ntmps97
    go_wp2_with fail
    refine HI.out.mono ?_
    rintro e w1 ⟨n, rfl, -, h2, hb⟩
    have hn := h2 trivial
    have d0 : decide (0 ≤ n) = false := by simp; omega
    clear h2 HI
    go_wp2
    go_ret
    exact ⟨rfl, hb⟩

/-- The greatest so far. -/
def maxI (a : Int) (l : List Int) : Int := l.foldl max a
theorem maxI_snoc (a : Int) (l : List Int) (x : Int) : maxI a (l ++ [x]) = max (maxI a l) x := by unfold maxI; rw [List.foldl_append]; rfl
theorem maxI_lt {n : Int} : ∀ (l : List Int) (a : Int), maxI a l < n ↔ a < n ∧ ∀ x ∈ l, x < n
  | [], a => by simp [maxI]
  | x :: l, a => by
    show maxI (max a x) l < n ↔ _
    rw [maxI_lt l (max a x), Int.max_lt]
    simp only [List.mem_cons, forall_eq_or_imp, and_assoc]
set_option maxRecDepth 100000 in
theorem max_any (w : World) (B : Nat) (A : Option Addr) (a : Int) (S : List Int) (c : Nat) (h : IntsAt w B A S) (h0 : S[0]? = some a) (hB : B ≤ w.heap.size) (hl : S.length ≤ 1000000000) :
    Calls Tryz.prog 48 #[.slice A S.length c] w fun e w' => e = .returned (.int .i64 (maxI a S)) ∧ w' = w := by
  obtain ⟨g0, off0, hA0, hg0, c00⟩ := h 0 a h0
  have h1 : 1 ≤ S.length := by have := (List.getElem?_eq_some_iff.1 h0).1; omega
  have ht1 : maxI a (S.take 1) = a := by
    obtain ⟨hk, hx⟩ := List.getElem?_eq_some_iff.1 h0
    rw [List.take_succ_eq_append_getElem hk, hx]
    show max a a = a
    omega
  subst hA0
  obtain ⟨M, hM⟩ : ∃ m, maxI a S = m := ⟨_, rfl⟩
  rw [hM]
  have HM := Lib.hid hM
  have HH := Lib.hid h
  have HT1 := Lib.hid ht1
  clear h h0 ht1 hM
  simp only [Nat.add_zero] at c00
  have d1 : decide ((S.length : Int) < 1) = false := decide_eq_false (by omega)
  go_enter Tryz.func48, Tryz.ntmps48
  go_wp2_with fail
  clear d1
  go_loopw [3, 4] (fun v i wr => ∃ k : Nat, 1 ≤ k ∧ k ≤ S.length ∧ v = .int .i64 (maxI a (S.take k)) ∧ i = .int .i64 (k : Int) ∧ wr = w) (fun _ i _ => S.length - (intOf i).toNat)
  case atStart => exact ⟨1, Nat.le_refl _, h1, by rw [HT1.out], rfl, rfl⟩
  case round =>
    obtain ⟨k, hk1, hk, rfl, rfl, rfl⟩ := hrel
    by_cases hlt : k < S.length
    · obtain ⟨s, hs⟩ : ∃ s, S[k]? = some s := ⟨_, List.getElem?_eq_getElem hlt⟩
      obtain ⟨gb, off, hA, hg, c0⟩ := HH.out k s hs
      injection hA with hA
      injection hA with e1 e2
      subst e1
      subst e2
      have hm := fun ts t W => run_max2 (P := Tryz.prog) (maxI a (S.take k)) s (maxI a (S.take (k + 1))) (by rw [take_snoc' hs, maxI_snoc]) ts t W
      clear hs
      obtain ⟨mk, hmk⟩ : ∃ m, maxI a (S.take (k + 1)) = m := ⟨_, rfl⟩
      rw [hmk] at hm
      have HMK := Lib.hid hmk
      clear hmk
      go_wp2
      go_roundw
      case rel => exact ⟨k + 1, by omega, by omega, by rw [HMK.out], by go_num, trivial⟩
      case measure => simp [intOf]; omega
    · obtain rfl : k = S.length := by omega
      rw [List.take_length, HM.out]
      clear HM HH HT1
      go_wp2
      go_ret
      exact ⟨rfl, rfl⟩
end Go.Proofs.YtknchlpcpgflkaaGreatDoor
