/- Names: package matter's name. slices.ContainsFunc at ints and at rights. Package matter's small functions: days, values, rights, moves; slices.IsSorted. A matter in memory; what formed asks of a right, of a move, of a limit. -/
import Derived.Test.YtebdkmlganalaaaGreatDoorKTopAccruedQf
import Derived.Test.YtebdkmlganalaaaGreatDoorKTopAccruedTy
import Derived.Test.YtebdkmlganalaaaGreatDoorKTopAccruedQj
import Derived.Test.YtebdkmlganalaaaGreatDoorKTopAccruedGAD
import Derived.Deep.QuietTactic
import Derived.BigQuiet
namespace Go.Proofs.YtebdkmlganalaaaGreatDoor
open Go.RowKit Go.Shelf

set_option maxRecDepth 100000 in
set_option maxHeartbeats 4000000 in
theorem mname_any (w : World) (s : ByteArray) (hs : s.size ≤ 9223372036854775807) : Calls Tryz.prog 31 #[.string s] w fun e w' => e = .returned (.bool (nameB s)) ∧ Below w.heap.size w w' := by
  obtain ⟨L, rfl⟩ : ∃ L, s = bs L := ⟨s.data.toList, (of_bs s).symm⟩
  have hl : L.length ≤ 9223372036854775807 := by rw [bs_size] at hs; exact hs
  have hlex := fun W => lex_any W L hl
  have hnm : nameB (bs L) = nmB L := rfl
  rw [hnm]
  obtain ⟨r, hr⟩ : ∃ r, nmB L = r := ⟨_, rfl⟩
  rw [hr]
  have HR := Lib.hid hr
  have HLEX := Lib.hid hlex
  clear hlex hs hl hnm hr
  go_enter Tryz.func31, Tryz.ntmps31
  go_wp2_with fail
  refine (HLEX.out _).mono ?_
  rintro e w1 ⟨b1, (⟨hn, g, c, rfl, c0, c1⟩ | ⟨hn, A, n, c, er, p, rfl, hq⟩)⟩
  · obtain rfl : true = r := hn.symm.trans HR.out
    clear HLEX HR hn
    go_wp2
    go_ret
    exact ⟨rfl, b1⟩
  · obtain rfl : false = r := hn.symm.trans HR.out
    have HQ := Lib.hid hq
    clear HLEX HR hn hq
    by_cases h0 : er = 0
    · have e0 : (er == 0) = true := by simpa using h0
      by_cases h1 : n = 1
      · obtain ⟨g, kd, tx, rfl, c0, c1, hk⟩ := HQ.out h0 h1
        have HK := Lib.hid hk
        subst h1
        clear h0 HQ hk
        by_cases hk1 : kd = 1
        · have e1 : (kd == 1) = true := by simpa using hk1
          have ht := HK.out hk1
          obtain ⟨T, rfl⟩ : ∃ T, tx = bs T := ⟨tx.data.toList, (of_bs tx).symm⟩
          have e2 := beq_bs (fun h => ht (by rw [h]) : T ≠ L)
          clear hk1 ht HK
          go_wp2
          go_ret
          exact ⟨rfl, b1⟩
        · have e1 : (kd == 1) = false := by simpa using hk1
          clear hk1 HK
          go_wp2
          go_ret
          exact ⟨rfl, b1⟩
      · have e1 : ((n : Int) == 1) = false := by simp; omega
        clear h0 h1 HQ
        go_wp2
        go_ret
        exact ⟨rfl, b1⟩
    · have e0 : (er == 0) = false := by simpa using h0
      clear h0 HQ
      go_wp2
      go_ret
      exact ⟨rfl, b1⟩
end Go.Proofs.YtebdkmlganalaaaGreatDoor

namespace Go.Proofs.YtebdkmlganalaaaGreatDoor
open Go.RowKit Go.Shelf

theorem idxI_take {p : Int → Bool} {S : List Int} {k : Nat} {s : Int} (h : S[k]? = some s) (hp : p s = true) : S.any p = true := List.any_eq_true.2 ⟨s, List.mem_of_getElem? h, hp⟩
/-- slices.IndexFunc: not negative just if some stop is as asked. -/
theorem indexI_any (w : World) (B : Nat) (A : Option Addr) (S : List Int) (c : Nat) (h : IntsAt w B A S) (hB : B ≤ w.heap.size) (hl : S.length ≤ 4611686018427387904) (p : Int → Bool) (g : Nat) (lb : Array Value)
    (eg : ∀ args w, (callFunc g args).run Tryz.prog w = .ok (.enter g args) w)
    (hp : ∀ W s, Below w.heap.size w W → Calls Tryz.prog g (#[.int .i64 s] ++ lb) W fun e w' => e = .returned (.bool (p s)) ∧ Below W.heap.size W w') :
    Calls Tryz.prog 88 #[.slice A S.length c, .func (.func g) #[] lb] w fun e w' => ∃ n : Int, e = .returned (.int .i64 n) ∧ (S.any p = true → 0 ≤ n) ∧ (S.any p = false → n < 0) ∧ Below w.heap.size w w' := by
  have HP := Lib.hid hp
  clear hp
  go_enter Tryz.func88, Tryz.ntmps88
  go_wp2_with fail
  go_loopw [8] (fun i wr => ∃ k : Nat, k ≤ S.length ∧ i = .int .i64 (k : Int) ∧ Hid ((S.take k).any p = false) ∧ Below w.heap.size w wr) (fun i _ => S.length - (intOf i).toNat)
  case atStart => exact ⟨0, Nat.zero_le _, rfl, Lib.hid rfl, Below.refl _ _⟩
  case round =>
    obtain ⟨k, hk, rfl, hn, hb⟩ := hrel
    by_cases hlt : k < S.length
    · obtain ⟨s, hs⟩ : ∃ s, S[k]? = some s := ⟨_, List.getElem?_eq_getElem hlt⟩
      obtain ⟨gb, off, hA, hg, c0⟩ := h.below (hb.mono hB) k s hs
      subst hA
      have HC := HP.out wr s hb
      have HS := Lib.hid hs
      have HCC := Lib.hid HC
      clear hs HC
      go_wp2_with fail
      cases hps : p s with
      | true =>
        have hcl := HCC.out
        rw [hps] at hcl
        have hany := Lib.hid (idxI_take HS.out hps)
        clear hps HCC
        refine hcl.mono ?_
        rintro e w1 ⟨rfl, b1⟩
        replace hb := hb.trans (b1.mono hb.size)
        clear b1 hcl
        go_wp2
        go_ret
        exact ⟨_, rfl, fun _ => by omega, fun h0 => by rw [hany.out] at h0; (cases h0), hb⟩
      | false =>
        have hcl := HCC.out
        rw [hps] at hcl
        have hnx : (S.take (k + 1)).any p = false := by
          obtain ⟨h1, h2⟩ := List.getElem?_eq_some_iff.1 HS.out
          rw [List.take_succ_eq_append_getElem h1, h2, List.any_append, hn.out]
          simp [hps]
        have HN := Lib.hid hnx
        clear hps HCC hnx
        refine hcl.mono ?_
        rintro e w1 ⟨rfl, b1⟩
        replace hb := hb.trans (b1.mono hb.size)
        clear b1 hcl
        go_wp2
        go_roundw
        case rel => exact ⟨k + 1, by omega, by go_num, HN, hb⟩
        case measure => simp [intOf]; omega
    · obtain rfl : k = S.length := by omega
      have hno := hn.out
      rw [List.take_length] at hno
      have HN := Lib.hid hno
      clear hno hn
      go_wp2
      go_ret
      exact ⟨_, rfl, fun h0 => by rw [HN.out] at h0; (cases h0), fun _ => by omega, hb⟩

theorem containsI_any (w : World) (B : Nat) (A : Option Addr) (S : List Int) (c : Nat) (h : IntsAt w B A S) (hB : B ≤ w.heap.size) (hl : S.length ≤ 4611686018427387904) (p : Int → Bool) (g : Nat) (lb : Array Value)
    (eg : ∀ args w, (callFunc g args).run Tryz.prog w = .ok (.enter g args) w)
    (hp : ∀ W s, Below w.heap.size w W → Calls Tryz.prog g (#[.int .i64 s] ++ lb) W fun e w' => e = .returned (.bool (p s)) ∧ Below W.heap.size W w') :
    Calls Tryz.prog 46 #[.slice A S.length c, .func (.func g) #[] lb] w fun e w' => e = .returned (.bool (S.any p)) ∧ Below w.heap.size w w' := by
  have hi := indexI_any w B A S c h hB hl p g lb eg hp
  clear h hp eg
  generalize S.any p = r at *
  have HI := Lib.hid hi
  clear hi
  cases r with
  | true =>
    go_enter Tryz.func46, Tryz.ntmps46
    go_wp2_with fail
    refine HI.out.mono ?_
    rintro e w1 ⟨n, rfl, h1, -, hb⟩
    have hn := h1 trivial
    clear h1 HI
    go_wp2
    go_ret
    exact ⟨rfl, hb⟩
  | false =>
    go_enter Tryz.func46, Tryz.ntmps46
    go_wp2_with fail
    refine HI.out.mono ?_
    rintro e w1 ⟨n, rfl, -, h2, hb⟩
    have hn := h2 trivial
    have d0 : decide (0 ≤ n) = false := by simp; omega
    clear h2 HI
    go_wp2
    go_ret
    exact ⟨rfl, hb⟩

theorem idxR_take {p : Rt → Bool} {S : List Rt} {k : Nat} {s : Rt} (h : S[k]? = some s) (hp : p s = true) : S.any p = true := List.any_eq_true.2 ⟨s, List.mem_of_getElem? h, hp⟩
/-- slices.IndexFunc: not negative just if some stop is as asked. -/
theorem indexR_any (w : World) (B : Nat) (A : Option Addr) (S : List Rt) (c : Nat) (h : RtsAt w B A S) (hB : B ≤ w.heap.size) (hl : S.length ≤ 4611686018427387904) (p : Rt → Bool) (g : Nat) (lb : Array Value)
    (eg : ∀ args w, (callFunc g args).run Tryz.prog w = .ok (.enter g args) w)
    (hp : ∀ W s, Below w.heap.size w W → Calls Tryz.prog g (#[.agg #[.string s.1, .int .i64 s.2]] ++ lb) W fun e w' => e = .returned (.bool (p s)) ∧ Below W.heap.size W w') :
    Calls Tryz.prog 72 #[.slice A S.length c, .func (.func g) #[] lb] w fun e w' => ∃ n : Int, e = .returned (.int .i64 n) ∧ (S.any p = true → 0 ≤ n) ∧ (S.any p = false → n < 0) ∧ Below w.heap.size w w' := by
  have HP := Lib.hid hp
  clear hp
  go_enter Tryz.func72, Tryz.ntmps72
  go_wp2_with fail
  go_loopw [8] (fun i wr => ∃ k : Nat, k ≤ S.length ∧ i = .int .i64 (k : Int) ∧ Hid ((S.take k).any p = false) ∧ Below w.heap.size w wr) (fun i _ => S.length - (intOf i).toNat)
  case atStart => exact ⟨0, Nat.zero_le _, rfl, Lib.hid rfl, Below.refl _ _⟩
  case round =>
    obtain ⟨k, hk, rfl, hn, hb⟩ := hrel
    by_cases hlt : k < S.length
    · obtain ⟨s, hs⟩ : ∃ s, S[k]? = some s := ⟨_, List.getElem?_eq_getElem hlt⟩
      obtain ⟨gb, off, hA, hg, c0, c1⟩ := h.below (hb.mono hB) k s hs
      subst hA
      have HC := HP.out wr s hb
      have HS := Lib.hid hs
      have HCC := Lib.hid HC
      clear hs HC
      go_wp2_with fail
      cases hps : p s with
      | true =>
        have hcl := HCC.out
        rw [hps] at hcl
        have hany := Lib.hid (idxR_take HS.out hps)
        clear hps HCC
        refine hcl.mono ?_
        rintro e w1 ⟨rfl, b1⟩
        replace hb := hb.trans (b1.mono hb.size)
        clear b1 hcl
        go_wp2
        go_ret
        exact ⟨_, rfl, fun _ => by omega, fun h0 => by rw [hany.out] at h0; (cases h0), hb⟩
      | false =>
        have hcl := HCC.out
        rw [hps] at hcl
        have hnx : (S.take (k + 1)).any p = false := by
          obtain ⟨h1, h2⟩ := List.getElem?_eq_some_iff.1 HS.out
          rw [List.take_succ_eq_append_getElem h1, h2, List.any_append, hn.out]
          simp [hps]
        have HN := Lib.hid hnx
        clear hps HCC hnx
        refine hcl.mono ?_
        rintro e w1 ⟨rfl, b1⟩
        replace hb := hb.trans (b1.mono hb.size)
        clear b1 hcl
        go_wp2
        go_roundw
        case rel => exact ⟨k + 1, by omega, by go_num, HN, hb⟩
        case measure => simp [intOf]; omega
    · obtain rfl : k = S.length := by omega
      have hno := hn.out
      rw [List.take_length] at hno
      have HN := Lib.hid hno
      clear hno hn
      go_wp2
      go_ret
      exact ⟨_, rfl, fun h0 => by rw [HN.out] at h0; (cases h0), fun _ => by omega, hb⟩

theorem containsR_any (w : World) (B : Nat) (A : Option Addr) (S : List Rt) (c : Nat) (h : RtsAt w B A S) (hB : B ≤ w.heap.size) (hl : S.length ≤ 4611686018427387904) (p : Rt → Bool) (g : Nat) (lb : Array Value)
    (eg : ∀ args w, (callFunc g args).run Tryz.prog w = .ok (.enter g args) w)
    (hp : ∀ W s, Below w.heap.size w W → Calls Tryz.prog g (#[.agg #[.string s.1, .int .i64 s.2]] ++ lb) W fun e w' => e = .returned (.bool (p s)) ∧ Below W.heap.size W w') :
    Calls Tryz.prog 36 #[.slice A S.length c, .func (.func g) #[] lb] w fun e w' => e = .returned (.bool (S.any p)) ∧ Below w.heap.size w w' := by
  have hi := indexR_any w B A S c h hB hl p g lb eg hp
  clear h hp eg
  generalize S.any p = r at *
  have HI := Lib.hid hi
  clear hi
  cases r with
  | true =>
    go_enter Tryz.func36, Tryz.ntmps36
    go_wp2_with fail
    refine HI.out.mono ?_
    rintro e w1 ⟨n, rfl, h1, -, hb⟩
    have hn := h1 trivial
    clear h1 HI
    go_wp2
    go_ret
    exact ⟨rfl, hb⟩
  | false =>
    go_enter Tryz.func36, Tryz.ntmps36
    go_wp2_with fail
    refine HI.out.mono ?_
    rintro e w1 ⟨n, rfl, -, h2, hb⟩
    have hn := h2 trivial
    have d0 : decide (0 ≤ n) = false := by simp; omega
    clear h2 HI
    go_wp2
    go_ret
    exact ⟨rfl, hb⟩

end Go.Proofs.YtebdkmlganalaaaGreatDoor

namespace Go.Proofs.YtebdkmlganalaaaGreatDoor
open Go.RowKit Go.Shelf

theorem drew2 (w : World) (a b : Nat) : (w.drewN a).drewN b = w.drewN (a + b) := by
  unfold World.drewN
  simp [Nat.add_assoc]
theorem mis_any (w : World) (n : Int) : Calls Tryz.prog 32 #[.int .i64 n] w fun e w' => e = .returned (.bool (isB n)) ∧ w = w' := by
  by_cases h0 : 0 ≤ n
  · by_cases h1 : n ≤ 1000000
    · rw [(isB_iff n).2 ⟨h0, h1⟩]
      go_enter Tryz.func32, Tryz.ntmps32
      go_wp2
      go_ret
      exact ⟨rfl, rfl⟩
    · rw [isB_no (.inr (by omega))]
      go_enter Tryz.func32, Tryz.ntmps32
      go_wp2
      go_ret
      exact ⟨rfl, rfl⟩
  · rw [isB_no (.inl (by omega))]
    go_enter Tryz.func32, Tryz.ntmps32
    go_wp2
    go_ret
    exact ⟨rfl, rfl⟩
theorem bad_any (w : World) (n : Int) : Calls Tryz.prog 47 #[.int .i64 n] w fun e w' => e = .returned (.bool !isB n) ∧ Below w.heap.size w w' := by
  by_cases h0 : n < 0
  · rw [isB_no (.inl h0)]
    go_enter Tryz.func47, Tryz.ntmps47
    go_wp2
    go_ret
    exact ⟨rfl, Below.refl _ _⟩
  · have d0 : decide (n < 0) = false := decide_eq_false h0
    by_cases h1 : 1000000 < n
    · rw [isB_no (.inr h1)]
      go_enter Tryz.func47, Tryz.ntmps47
      go_wp2
      go_ret
      exact ⟨rfl, Below.refl _ _⟩
    · have d1 : decide (1000000 < n) = false := decide_eq_false h1
      rw [(isB_iff n).2 ⟨by omega, by omega⟩]
      go_enter Tryz.func47, Tryz.ntmps47
      go_wp2
      go_ret
      exact ⟨rfl, Below.refl _ _⟩
theorem nan_any (w : World) (n : Int) : Calls Tryz.prog 113 #[.int .i64 n] w fun e w' => e = .returned (.bool false) ∧ w = w' := by
  go_enter Tryz.func113, Tryz.ntmps113
  go_wp2
  go_ret
  exact ⟨by simp, rfl⟩
theorem less_any (w : World) (a b : Int) : Calls Tryz.prog 89 #[.int .i64 a, .int .i64 b] w fun e w' => e = .returned (.bool (decide (a < b))) ∧ w = w' := by
  by_cases h : a < b
  · have d : decide (a < b) = true := decide_eq_true h
    rw [d]
    go_enter Tryz.func89, Tryz.ntmps89
    go_wp2_with fail
    refine (nan_any _ a).mono ?_
    rintro e w1 ⟨rfl, rfl⟩
    go_wp2
    go_ret
    exact ⟨rfl, rfl⟩
  · have d : decide (a < b) = false := decide_eq_false h
    rw [d]
    go_enter Tryz.func89, Tryz.ntmps89
    go_wp2_with fail
    refine (nan_any _ a).mono ?_
    rintro e w1 ⟨rfl, rfl⟩
    go_wp2
    go_ret
    exact ⟨rfl, rfl⟩
theorem less_same (w : World) (a b : Int) : Calls Tryz.prog 89 #[.int .i64 a, .int .i64 b] w fun e w' => e = .returned (.bool (decide (a < b))) ∧ w' = w := (less_any w a b).mono fun _ _ ⟨h1, h2⟩ => ⟨h1, h2.symm⟩
/-- From an index on, days do not decrease. -/
theorem srt_iff : ∀ (l : List Int), srtB l = true ↔ ∀ (i : Nat) (a b : Int), l[i]? = some a → l[i + 1]? = some b → a ≤ b
  | [] => by simp [srtB]
  | [x] => by simp [srtB]
  | x :: y :: xs => by
    have ih := srt_iff (y :: xs)
    show (decide (x ≤ y) && srtB (y :: xs)) = true ↔ _
    rw [Bool.and_eq_true, decide_eq_true_eq, ih]
    constructor
    · rintro ⟨h1, h2⟩ i a b ha hb
      cases i with
      | zero => simp at ha hb; subst ha hb; exact h1
      | succ i => exact h2 i a b (by simpa using ha) (by simpa using hb)
    · intro h
      exact ⟨h 0 x y rfl rfl, fun i a b ha hb => h (i + 1) a b (by simpa using ha) (by simpa using hb)⟩
set_option maxRecDepth 100000 in
set_option maxHeartbeats 2000000 in
theorem sorted_any (w : World) (B : Nat) (A : Option Addr) (l : List Int) (c : Nat) (h : IntsAt w B A l) (hl : l.length ≤ 9223372036854775807) :
    Calls Tryz.prog 48 #[.slice A l.length c] w fun e w' => e = .returned (.bool (srtB l)) ∧ ∃ q, w' = w.drewN q := by
  obtain ⟨r, hr⟩ : ∃ r, srtB l = r := ⟨_, rfl⟩
  rw [hr]
  have HR := Lib.hid hr
  have HH := Lib.hid h
  clear hr h
  go_enter Tryz.func48, Tryz.ntmps48
  go_wp2_with fail
  go_loopw [3] (fun i wr => ∃ (k : Nat) (x : Int), k ≤ l.length ∧ x + 1 = ((l.length - k : Nat) : Int) ∧ i = .int .i64 x ∧ Hid (∀ (i : Nat) (a b : Int), l.length - k ≤ i + 1 → l[i]? = some a → l[i + 1]? = some b → a ≤ b) ∧ ∃ q, wr = w.drewN q) (fun i _ => (intOf i).toNat)
  case atStart => exact ⟨0, (l.length : Int) - 1, Nat.zero_le _, by omega, rfl, Lib.hid (fun i a b h1 _ h3 => by have := (List.getElem?_eq_some_iff.1 h3).1; omega), 0, rfl⟩
  case round =>
    obtain ⟨k, x, hk, hx, rfl, HS, q, rfl⟩ := hrel
    by_cases h0 : 0 < x
    · obtain ⟨j, rfl⟩ : ∃ j : Nat, x = (j : Int) + 1 := ⟨(x - 1).toNat, by omega⟩
      have hjk : j + 1 + 1 = l.length - k := by omega
      obtain ⟨a, ha⟩ : ∃ a, l[j + 1]? = some a := ⟨_, List.getElem?_eq_getElem (by omega)⟩
      obtain ⟨b, hb⟩ : ∃ b, l[j]? = some b := ⟨_, List.getElem?_eq_getElem (by omega)⟩
      obtain ⟨g, off, hA, hg, c1⟩ := HH.out (j + 1) a ha
      obtain ⟨g', off', hA', hg', c0⟩ := HH.out j b hb
      rw [hA] at hA'
      injection hA' with hA'
      injection hA' with e1 e2
      subst e1 e2 hA
      have c0' : (w.drewN q).cell? ⟨g, off + j, none⟩ = some (.int .i64 b) := c0
      have c1' : (w.drewN q).cell? ⟨g, off + (j + 1), none⟩ = some (.int .i64 a) := c1
      have HA := Lib.hid ha
      have HB := Lib.hid hb
      clear c0 c1 ha hb
      have s1 : ((j : Int) + 1 - 1) = (j : Int) := by omega
      have s2 : ((j : Int) + 1).toNat = j + 1 := by omega
      have s3 : (0 : Int) ≤ (j : Int) + 1 := by omega
      have s4 : (j : Int) + 1 < (l.length : Int) := by omega
      have s6 : (0 : Int) ≤ (j : Int) := by omega
      have s7 : (j : Int) < (l.length : Int) := by omega
      have s5 : IntKind.i64.wrap (j : Int) = (j : Int) := IntWalk.i64_in _ (by omega)
      go_wp2_with fail
      generalize hW : w.drewN q = W at *
      go_quiet ((go_at_call 89; exact Calls.quiet_of_same (less_same _ _ _)))
      subst hW
      rw [drew2]
      clear s1 s2 s3 s4 s5 s6 s7 c0' c1'
      by_cases hab : a < b
      · have d : decide (a < b) = true := decide_eq_true hab
        have hrr : r = false := by
          rw [← HR.out, ← Bool.not_eq_true, srt_iff]
          intro hh
          have := hh j b a HB.out HA.out
          omega
        subst hrr
        go_wp2
        go_ret
        exact ⟨rfl, q + nq, rfl⟩
      · have d : decide (a < b) = false := decide_eq_false hab
        have hnx : ∀ (i : Nat) (a b : Int), l.length - (k + 1) ≤ i + 1 → l[i]? = some a → l[i + 1]? = some b → a ≤ b := fun i a' b' h1 h2 h3 => by
          rcases Nat.lt_or_ge (i + 1) (l.length - k) with h4 | h4
          · have : i = j := by omega
            subst this
            rw [HB.out] at h2
            rw [HA.out] at h3
            injection h2 with h2
            injection h3 with h3
            omega
          · exact HS.out i a' b' h4 h2 h3
        have HNX := Lib.hid hnx
        have hba : b ≤ a := by omega
        clear hnx hab
        go_wp2
        exact ⟨⟨k + 1, (j : Int), by omega, by omega, rfl, HNX, q + nq, rfl⟩, by simp [intOf]⟩
    · have hrr : r = true := by
        rw [← HR.out, srt_iff]
        intro i a b h2 h3
        have := (List.getElem?_eq_some_iff.1 h3).1
        exact HS.out i a b (by omega) h2 h3
      subst hrr
      go_wp2
      go_ret
      exact ⟨rfl, q, rfl⟩
end Go.Proofs.YtebdkmlganalaaaGreatDoor

namespace Go.Proofs.YtebdkmlganalaaaGreatDoor
open Go.RowKit Go.Shelf

/-- Where a matter has its lists. -/
structure MtX where
  a1 : Option Addr
  c1 : Nat
  a2 : Option Addr
  c2 : Nat
  a3 : Option Addr
  c3 : Nat
  a4 : Option Addr
  c4 : Nat
  lv : List LmV
def mtC (m : Mt) (x : MtX) : Array Value := #[.string m.id, .int .i64 m.o, .slice x.a1 m.cs.length x.c1, .string m.pr, .int .i64 m.st, .slice x.a2 m.mv.length x.c2, .slice x.a3 m.rs.length x.c3, .slice x.a4 m.ls.length x.c4]
structure MtAt (w : World) (B : Nat) (m : Mt) (x : MtX) : Prop where
  cs : IntsAt w B x.a1 m.cs
  mv : IntsAt w B x.a2 m.mv
  rs : RtsAt w B x.a3 m.rs
  ls : LmsAt w B x.a4 x.lv
  lv : x.lv.map (·.1) = m.ls
  id : m.id.size ≤ 9223372036854775807
  pr : m.pr.size ≤ 9223372036854775807
  rn : ∀ r ∈ m.rs, r.1.size ≤ 9223372036854775807
theorem MtAt.below {w w' : World} {B : Nat} {m : Mt} {x : MtX} (h : MtAt w B m x) (hb : Below B w w') : MtAt w' B m x := ⟨h.cs.below hb, h.mv.below hb, h.rs.below hb, h.ls.below hb, h.lv, h.id, h.pr, h.rn⟩
theorem MtAt.wide {w : World} {B B' : Nat} {m : Mt} {x : MtX} (h : MtAt w B m x) (hB : B ≤ B') : MtAt w B' m x := ⟨h.cs.wide hB, h.mv.wide hB, h.rs.wide hB, h.ls.wide hB, h.lv, h.id, h.pr, h.rn⟩
/-- Lists of a moderate length. -/
def Sml (m : Mt) : Prop := m.cs.length ≤ 1000000 ∧ m.mv.length ≤ 1000000 ∧ m.rs.length ≤ 1000000 ∧ m.ls.length ≤ 1000000
theorem MtAt.len {w : World} {B : Nat} {m : Mt} {x : MtX} (h : MtAt w B m x) : x.lv.length = m.ls.length := by
  have := congrArg List.length h.lv
  simpa using this

set_option maxRecDepth 100000 in
theorem rgood_any (w : World) (bm : Nat) (o : Int) (h1 : w.cell? ⟨bm, 1, none⟩ = some (.int .i64 o)) (r : Rt) (hs : r.1.size ≤ 9223372036854775807) (hlt : bm < w.heap.size) :
    Calls Tryz.prog 51 #[.agg #[.string r.1, .int .i64 r.2], .pointer (some ⟨bm, 0, none⟩)] w fun e w' => e = .returned (.bool (rtB o r)) ∧ Below w.heap.size w w' := by
  have hb := below_self_alloc w (.cells #[.string r.1, .int .i64 r.2] 53)
  have kx := Blk.new w 53 #[.string r.1, .int .i64 r.2]
  have h1' : (w.alloc (.cells #[.string r.1, .int .i64 r.2] 53)).cell? ⟨bm, 1, none⟩ = some (.int .i64 o) := (hb.cell (p := ⟨bm, 1, none⟩) hlt).trans h1
  have hnm := fun W => mname_any W r.1 hs
  obtain ⟨q, hq⟩ : ∃ q, rtB o r = q := ⟨_, rfl⟩
  rw [hq]
  unfold rtB at hq
  have HQ := Lib.hid hq
  obtain ⟨n, d⟩ := r
  simp only at *
  cases hn : nameB n with
  | false =>
    have hnm' := hnm (w.alloc (.cells #[.string n, .int .i64 d] 53))
    rw [hn] at hnm'
    have HN := Lib.hid hnm'
    have hqq : q = false := by rw [← HQ.out, hn]; rfl
    subst hqq
    clear hnm hnm' hn hq HQ
    go_enter Tryz.func51, Tryz.ntmps51
    go_wp2_with fail
    refine HN.out.mono ?_
    rintro e w1 ⟨rfl, b1⟩
    have hb2 := hb.trans (b1.mono hb.size)
    clear b1 kx h1'
    go_wp2
    go_ret
    exact ⟨rfl, hb2⟩
  | true =>
    have hnm' := hnm (w.alloc (.cells #[.string n, .int .i64 d] 53))
    rw [hn] at hnm'
    have HN := Lib.hid hnm'
    have hqq : (decide (o ≤ d) && isB d) = q := by rw [← HQ.out, hn]; rfl
    have HQQ := Lib.hid hqq
    clear hnm hnm' hn hq HQ hqq
    by_cases hod : o ≤ d
    · cases hd : isB d with
      | false =>
        have hqq : q = false := by rw [← HQQ.out, decide_eq_true hod, hd]; rfl
        have hi := fun W => mis_any W d
        rw [hd] at hi
        have HI := Lib.hid hi
        subst hqq
        clear hi hd HQQ
        go_enter Tryz.func51, Tryz.ntmps51
        go_wp2_with fail
        refine HN.out.mono ?_
        rintro e w1 ⟨rfl, b1⟩
        have hb2 := hb.trans (b1.mono hb.size)
        obtain ⟨t0, t1, t2⟩ := (kx.below b1 kx.lt).all
        have h2 : w1.cell? ⟨bm, 1, none⟩ = some (.int .i64 o) := (b1.cell (p := ⟨bm, 1, none⟩) (Nat.lt_of_lt_of_le hlt hb.size)).trans h1'
        clear b1 kx h1'
        go_wp2_with fail
        refine (HI.out _).mono ?_
        rintro e w2 ⟨rfl, rfl⟩
        go_wp2
        go_ret
        exact ⟨rfl, hb2⟩
      | true =>
        have hqq : q = true := by rw [← HQQ.out, decide_eq_true hod, hd]; rfl
        have hi := fun W => mis_any W d
        rw [hd] at hi
        have HI := Lib.hid hi
        subst hqq
        clear hi hd HQQ
        go_enter Tryz.func51, Tryz.ntmps51
        go_wp2_with fail
        refine HN.out.mono ?_
        rintro e w1 ⟨rfl, b1⟩
        have hb2 := hb.trans (b1.mono hb.size)
        obtain ⟨t0, t1, t2⟩ := (kx.below b1 kx.lt).all
        have h2 : w1.cell? ⟨bm, 1, none⟩ = some (.int .i64 o) := (b1.cell (p := ⟨bm, 1, none⟩) (Nat.lt_of_lt_of_le hlt hb.size)).trans h1'
        clear b1 kx h1'
        go_wp2_with fail
        refine (HI.out _).mono ?_
        rintro e w2 ⟨rfl, rfl⟩
        go_wp2
        go_ret
        exact ⟨rfl, hb2⟩
    · have hqq : q = false := by rw [← HQQ.out, decide_eq_false hod]; rfl
      have dod : decide (o ≤ d) = false := decide_eq_false hod
      have hdo : d < o := by omega
      subst hqq
      clear HQQ hod
      go_enter Tryz.func51, Tryz.ntmps51
      go_wp2_with fail
      refine HN.out.mono ?_
      rintro e w1 ⟨rfl, b1⟩
      have hb2 := hb.trans (b1.mono hb.size)
      obtain ⟨t0, t1, t2⟩ := (kx.below b1 kx.lt).all
      have h2 : w1.cell? ⟨bm, 1, none⟩ = some (.int .i64 o) := (b1.cell (p := ⟨bm, 1, none⟩) (Nat.lt_of_lt_of_le hlt hb.size)).trans h1'
      clear b1 kx h1'
      go_wp2
      go_ret
      exact ⟨rfl, hb2⟩

set_option maxRecDepth 100000 in
theorem mgood_any (w : World) (bn n : Nat) (h1 : w.cell? ⟨bn, 0, none⟩ = some (.int .i64 (n : Int))) (m : I2) (hlt : bn < w.heap.size) :
    Calls Tryz.prog 59 #[.agg #[.int .i64 m.1, .int .i64 m.2], .pointer (some ⟨bn, 0, none⟩)] w fun e w' => e = .returned (.bool (mvB n m)) ∧ Below w.heap.size w w' := by
  have hb := below_self_alloc w (.cells #[.int .i64 m.1, .int .i64 m.2] 90)
  have h1' : (w.alloc (.cells #[.int .i64 m.1, .int .i64 m.2] 90)).cell? ⟨bn, 0, none⟩ = some (.int .i64 (n : Int)) := (hb.cell (p := ⟨bn, 0, none⟩) hlt).trans h1
  obtain ⟨a, b⟩ := m
  simp only at *
  obtain ⟨q, hq⟩ : ∃ q, mvB n (a, b) = q := ⟨_, rfl⟩
  rw [hq]
  unfold mvB at hq
  simp only at hq
  have hmin := run_min2 (P := Tryz.prog) a b (min a b) rfl
  have hmax := run_max2 (P := Tryz.prog) a b (max a b) rfl
  generalize min a b = lo at *
  generalize max a b = hi at *
  by_cases h2 : a ≠ b
  · have e2 : (a != b) = true := by simpa using h2
    by_cases h3 : 0 ≤ lo
    · by_cases h4 : hi < (n : Int)
      · obtain rfl : true = q := by rw [← hq]; exact (decide_eq_true ⟨h2, h3, h4⟩).symm
        clear hq h2
        go_enter Tryz.func59, Tryz.ntmps59
        go_wp2
        go_ret
        exact ⟨rfl, hb⟩
      · obtain rfl : false = q := by rw [← hq]; exact (decide_eq_false (fun h => h4 h.2.2)).symm
        have d4 : decide (hi < (n : Int)) = false := decide_eq_false h4
        clear hq h2
        go_enter Tryz.func59, Tryz.ntmps59
        go_wp2
        go_ret
        exact ⟨rfl, hb⟩
    · obtain rfl : false = q := by rw [← hq]; exact (decide_eq_false (fun h => h3 h.2.1)).symm
      have d3 : decide (0 ≤ lo) = false := decide_eq_false h3
      clear hq h2
      go_enter Tryz.func59, Tryz.ntmps59
      go_wp2
      go_ret
      exact ⟨rfl, hb⟩
  · obtain rfl : false = q := by rw [← hq]; exact (decide_eq_false (fun h => h2 h.1)).symm
    have e2 : (a != b) = false := by simpa using h2
    clear hq h2
    go_enter Tryz.func59, Tryz.ntmps59
    go_wp2
    go_ret
    exact ⟨rfl, hb⟩

set_option maxRecDepth 100000 in
set_option maxHeartbeats 2000000 in
theorem lgood_any (w : World) (B : Nat) (L : LmV) (h : LmAt w B L.2.1 L.1) (hB : B ≤ w.heap.size) :
    Calls Tryz.prog 54 #[.agg #[.string L.1.id, .int .i64 L.1.n, .int .i64 L.1.u, .int .i64 L.1.f, .slice L.2.1 L.1.S.length L.2.2]] w fun e w' => e = .returned (.bool (prB L.1)) ∧ Below w.heap.size w w' := by
  obtain ⟨M, A, c⟩ := L
  simp only at *
  have hb := below_self_alloc w (.cells #[.string M.id, .int .i64 M.n, .int .i64 M.u, .int .i64 M.f, .slice A M.S.length c] 66)
  have kx := Blk.new w 66 #[.string M.id, .int .i64 M.n, .int .i64 M.u, .int .i64 M.f, .slice A M.S.length c]
  have hp : Calls Tryz.prog 90 #[.agg #[.string M.id, .int .i64 M.n, .int .i64 M.u, .int .i64 M.f, .slice A M.S.length c], .agg #[.int .i64 0, .int .i64 0]] (w.alloc (.cells #[.string M.id, .int .i64 M.n, .int .i64 M.u, .int .i64 M.f, .slice A M.S.length c] 66)) _ :=
    pause_any _ M (0, 0) B A c (h.below (hb.mono hB)) (Nat.le_trans hB hb.size)
  obtain ⟨q, hq⟩ : ∃ q, prB M = q := ⟨_, rfl⟩
  have hpe : (pauseS M (0, 0)).2 = if q = true then (if M.S.length = 60 then 2 else 0) else 1 := by
    unfold pauseS
    rw [hq, show psB (0, 0) = true from rfl, Bool.and_true]
    split
    · split <;> rfl
    · rfl
  rw [hq]
  obtain ⟨R, hR⟩ : ∃ R, pauseS M (0, 0) = R := ⟨_, rfl⟩
  rw [hR] at hp hpe
  obtain ⟨R1, R2⟩ := R
  simp only at hpe
  have HP := Lib.hid hp
  have HPE := Lib.hid hpe
  clear hp hpe hR hq h
  obtain ⟨t0, t1, t2⟩ := kx.all
  go_enter Tryz.func54, Tryz.ntmps54
  go_wp2_with fail
  refine HP.out.mono ?_
  rintro e w1 ⟨A', c', rfl, hst, b1⟩
  have hb2 := hb.trans (b1.mono hb.size)
  have hb3 := hb2.alloc hb2.size (.cells (R1.cells A' c') 66)
  clear b1 hst kx t0 t1 t2 hb
  unfold Lm.cells at hb3 ⊢
  have hfin : (R2 != 1) = q := by
    rw [HPE.out]
    cases q with
    | true => rw [if_pos rfl]; split <;> rfl
    | false => rfl
  go_wp2
  go_ret
  exact ⟨rfl, hb3⟩
end Go.Proofs.YtebdkmlganalaaaGreatDoor
