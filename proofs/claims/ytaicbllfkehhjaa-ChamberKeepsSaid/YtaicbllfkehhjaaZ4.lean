/- Part 4 of what the laws of this seat stand on: Ev, Fa, Hp, Ew, Fb, Open, Fc, Px, Py. -/
import Derived.Test.YtaicbllfkehhjaaZ3
import Derived.Deep.DeepCutAuto
import Derived.Deep.Slices
import Derived.Deep.Fields
import Derived.ChangeSame
import Derived.ChangeOld
import Derived.ProofKit
import Derived.OpenShut
import Derived.ShutString

/- The reference: Open, Find. -/
namespace Go.Proofs.Ytaicbllfkehhjaa
open Go.RowKit

theorem ClsAt.at_ {w : World} {B : Nat} {A : Option Addr} {l : List Cl} (h : ClsAt w B A l) {i : Nat} {c : Cl} (hi : l[i]? = some c) {g off : Nat} (hA : A = some ⟨g, off, none⟩) :
    w.cell? ⟨g, off + i * 20, none⟩ = some (.int .i64 c.id.1) ∧ w.cell? ⟨g, off + i * 20 + 1, none⟩ = some (.int .i64 c.id.2) ∧ w.cell? ⟨g, off + i * 20 + 2, none⟩ = some (.int .i64 c.after.1) ∧ w.cell? ⟨g, off + i * 20 + 3, none⟩ = some (.int .i64 c.after.2) ∧ w.cell? ⟨g, off + i * 20 + 19, none⟩ = some (.bool c.gone) := by
  obtain ⟨g', off', h1, _, h3⟩ := h i c hi
  rw [hA] at h1
  obtain ⟨rfl, rfl⟩ : g = g' ∧ off = off' := by
    have h4 := Option.some.inj h1
    exact ⟨congrArg Addr.block h4, congrArg Addr.off h4⟩
  exact ⟨h3 0 _ rfl, h3 1 _ rfl, h3 2 _ rfl, h3 3 _ rfl, h3 19 _ rfl⟩
theorem openN_take {l : List Cl} {k : Nat} {c : Cl} (h : l[k]? = some c) : openN (l.take (k + 1)) = openN (l.take k) + (if c.gone then 0 else 1) := by
  rw [List.take_add_one, h]
  unfold openN
  rw [List.countP_append]
  cases hg : c.gone <;> simp [hg]
theorem below_drewN {B : Nat} {a w : World} (h : Below B a w) (n : Nat) : Below B a (w.drewN n) := ⟨h.os, h.tape, h.output, h.size, h.block⟩
set_option maxRecDepth 100000 in
set_option maxHeartbeats 4000000 in
theorem rOpen_any (w : World) (B : Nat) (A : Option Addr) (cap : Nat) (l : List Cl) (h : ClsAt w B A l) (hl : l.length ≤ 1000000) :
    Calls Try.prog 53 #[.slice A l.length cap] w fun e w' => e = .returned (.int .i64 (openN l : Nat)) ∧ w' = w := by
  have HH := Lib.hid h
  obtain ⟨N, hN⟩ : ∃ N, l.length = N := ⟨_, rfl⟩
  rw [hN] at hl ⊢
  have HN := Lib.hid hN
  clear h hN
  go_enter Try.func53, Try.ntmps53
  go_wp2_with fail
  go_loopw [3, 4] (fun n i wr => wr = w ∧ ∃ k m : Nat, k ≤ N ∧ m ≤ k ∧ i = .int .i64 (k : Int) ∧ n = .int .i64 (m : Int) ∧ Hid (openN (l.take k) = m)) (fun _ i _ => N - (intOf i).toNat)
  case atStart => exact ⟨rfl, 0, 0, Nat.zero_le _, Nat.le_refl _, rfl, rfl, Lib.hid rfl⟩
  case round =>
    obtain ⟨rfl, k, m, hk, hm, rfl, rfl, HM⟩ := hrel
    by_cases hkN : k < N
    · obtain ⟨c, hc⟩ : ∃ c, l[k]? = some c := ⟨_, List.getElem?_eq_getElem (by rw [HN.out]; exact hkN)⟩
      obtain ⟨g, off, rfl, -, -⟩ := HH.out k c hc
      have e1 : decide ((k : Int) < (N : Int)) = true := decide_eq_true (by omega)
      obtain ⟨-, -, -, -, c19⟩ := HH.out.at_ hc rfl
      have hot := openN_take hc
      have HKN := Lib.hid hkN
      have HML := Lib.hid hm
      clear hc hkN
      cases hgo : c.gone with
      | true =>
        rw [hgo] at c19 hot
        have HM2 := Lib.hid (show openN (l.take (k + 1)) = m by rw [hot, HM.out]; rfl)
        clear hot HM hgo
        go_wp2_with fail
        refine ⟨⟨trivial, k + 1, m, HKN.out, Nat.le_succ_of_le HML.out, by go_num, rfl, HM2⟩, ?_⟩
        have := HKN.out
        simp [intOf]
        omega
      | false =>
        rw [hgo] at c19 hot
        have HM2 := Lib.hid (show openN (l.take (k + 1)) = m + 1 by rw [hot, HM.out]; rfl)
        clear hot HM hgo
        go_wp2_with fail
        refine ⟨⟨trivial, k + 1, m + 1, HKN.out, Nat.succ_le_succ HML.out, by go_num, by go_num, HM2⟩, ?_⟩
        have := HKN.out
        simp [intOf]
        omega
    · obtain rfl : k = N := by omega
      have hR : openN l = m := by
        have := HM.out
        rwa [← HN.out, List.take_length] at this
      have HR := Lib.hid hR
      clear HM hR
      go_wp2
      go_ret
      exact ⟨by rw [HR.out]; rfl, rfl⟩

def findS (l : List Cl) (t : St2) : Int := match l.findIdx? fun c => decide (c.id = t) with | some k => (k : Int) | none => -1
theorem find_at {l : List Cl} {t : St2} {k : Nat} {c : Cl} (h : ∀ j d, j < k → l[j]? = some d → d.id ≠ t) (hk : l[k]? = some c) (hc : c.id = t) : findS l t = (k : Int) := by
  have : l.findIdx? (fun c => decide (c.id = t)) = some k := by
    rw [List.findIdx?_eq_some_iff_getElem]
    obtain ⟨hlt, he⟩ := List.getElem?_eq_some_iff.1 hk
    exact ⟨hlt, by rw [he]; simpa using hc, fun j hj => by simpa using h j _ hj (List.getElem?_eq_getElem (by omega))⟩
  unfold findS
  rw [this]
theorem find_no {l : List Cl} {t : St2} (h : ∀ j d, j < l.length → l[j]? = some d → d.id ≠ t) : findS l t = -1 := by
  have : l.findIdx? (fun c => decide (c.id = t)) = none := by
    rw [List.findIdx?_eq_none_iff]
    intro c hc
    obtain ⟨j, hj⟩ := List.getElem?_of_mem hc
    simpa using h j c (List.getElem?_eq_some_iff.1 hj).1 hj
  unfold findS
  rw [this]
set_option maxRecDepth 100000 in
set_option maxHeartbeats 4000000 in
theorem rFind_any (w : World) (B : Nat) (A : Option Addr) (cap : Nat) (l : List Cl) (h : ClsAt w B A l) (hB : B ≤ w.heap.size) (hl : l.length ≤ 1000000) (t : St2) :
    Calls Try.prog 26 #[.slice A l.length cap, .agg (stA t)] w fun e w' => e = .returned (.int .i64 (findS l t)) ∧ Below w.heap.size w w' := by
  have hb := (Below.refl w.heap.size w).alloc (Nat.le_refl _) (.cells (stA t) 33)
  have kb := Blk.new w 33 (stA t)
  have HH := Lib.hid ((h.wide hB).below hb)
  have s0 : (w.alloc (.cells (stA t) 33)).cell? ⟨w.heap.size, 0, none⟩ = some (.int .i64 t.1) := kb.cell 0
  have s1 : (w.alloc (.cells (stA t) 33)).cell? ⟨w.heap.size, 1, none⟩ = some (.int .i64 t.2) := kb.cell 1
  obtain ⟨N, hN⟩ : ∃ N, l.length = N := ⟨_, rfl⟩
  obtain ⟨R, hR⟩ : ∃ R, findS l t = R := ⟨_, rfl⟩
  rw [hN] at hl ⊢
  rw [hR]
  have HN := Lib.hid hN
  have HR := Lib.hid hR
  have HB := Lib.hid hb
  clear h hN hR kb hb
  obtain ⟨ST, hST⟩ : ∃ x, stA t = x := ⟨_, rfl⟩
  rw [hST] at HH HB s0 s1 ⊢
  clear hST
  go_enter Try.func26, Try.ntmps26
  go_wp2_with fail
  generalize w.alloc (.cells ST 33) = W at *
  go_loopw [5] (fun i wr => ∃ k q0 : Nat, wr = W.drewN q0 ∧ k ≤ N ∧ i = .int .i64 (k : Int) ∧ Hid (∀ j d, j < k → l[j]? = some d → d.id ≠ t)) (fun i _ => N - (intOf i).toNat)
  case atStart => exact ⟨0, 0, rfl, Nat.zero_le _, rfl, Lib.hid fun j x hj => by omega⟩
  case round =>
    obtain ⟨k, q0, rfl, hk, rfl, HK⟩ := hrel
    by_cases hkN : k < N
    · obtain ⟨c, hc⟩ : ∃ c, l[k]? = some c := ⟨_, List.getElem?_eq_getElem (by rw [HN.out]; exact hkN)⟩
      obtain ⟨g, off, rfl, -, -⟩ := HH.out k c hc
      have e1 : decide ((k : Int) < (N : Int)) = true := decide_eq_true (by omega)
      obtain ⟨d0, d1, -, -, -⟩ := HH.out.at_ hc rfl
      have hez : ∀ W : World, (Op.equalIn 10000 33 (.agg #[.int .i64 c.id.1, .int .i64 c.id.2]) (.agg #[.int .i64 t.1, .int .i64 t.2])).run Try.prog W = .ok (decide (c.id = t)) W := eq_st c.id t
      have HKN := Lib.hid hkN
      have HC := Lib.hid hc
      clear hc hkN
      by_cases he : c.id = t
      · rw [decide_eq_true he] at hez
        obtain rfl : R = (k : Int) := by rw [← HR.out]; exact find_at HK.out HC.out he
        clear he HK HR
        go_wp2_with fail
        go_quiet (fail)
        go_wp2
        go_ret
        exact ⟨rfl, below_drewN (below_drewN HB.out q0) _⟩
      · rw [decide_eq_false he] at hez
        have HK2 := Lib.hid (show ∀ j d, j < k + 1 → l[j]? = some d → d.id ≠ t from fun j x hj hjx => by
          rcases Nat.lt_or_ge j k with h1 | h1
          · exact HK.out j x h1 hjx
          · obtain rfl : j = k := by omega
            rw [HC.out] at hjx
            injection hjx with hjx
            subst hjx
            exact he)
        clear he HK
        go_wp2_with fail
        go_quiet (fail)
        go_wp2_with fail
        refine ⟨⟨k + 1, _, rfl, HKN.out, by go_num, HK2⟩, ?_⟩
        have := HKN.out
        simp [intOf]
        omega
    · obtain rfl : k = N := by omega
      obtain rfl : R = -1 := by rw [← HR.out]; exact find_no fun j x hj => HK.out j x (by rw [← HN.out]; exact hj)
      clear HK HR
      go_wp2
      go_ret
      exact ⟨rfl, below_drewN HB.out _⟩
end Go.Proofs.Ytaicbllfkehhjaa

/- The laws of a page, in plain words. No program in sight. -/
namespace Go.Proofs.Ytaicbllfkehhjaa

/-! ### Orders -/
theorem openN_app (A B : List Cl) : openN (A ++ B) = openN A + openN B := by unfold openN; rw [List.countP_append]
theorem openN_one (c : Cl) : openN [c] = if c.gone then 0 else 1 := by
  cases h : c.gone <;> simp [openN, h]
theorem put_new {L : List Cl} {c : Cl} (hp : properC c = true) (hn : getC L c.id = none) (ha : c.after = z2 ∨ ∃ d ∈ L, d.id = c.after) (ho : openN (L ++ [c]) ≤ 64) : putS L c = (L ++ [c], 0) := by
  unfold putS
  rw [if_neg (by rw [hp]; simp), hn]
  simp only
  rw [if_neg, if_neg]
  · rintro ⟨h1, h2⟩
    rw [openN_app, openN_one, h1] at ho
    simp at ho
    omega
  · rintro ⟨h1, h2⟩
    rcases ha with ha | ⟨d, hd, hda⟩
    · exact h1 ha
    · exact getC_none.1 h2 d hd hda
theorem page_all : ∀ (Y X S : List Cl), S = X ++ Y → Pg S → (∀ A c B, S = A ++ c :: B → c.after = z2 ∨ ∃ d ∈ A, d.id = c.after) → Y.foldl (fun a c => (putS a c).1) X = S
  | [], X, S, h, _, _ => by rw [h]; simp
  | c :: Y, X, S, h, hS, hl => by
    have hc : c ∈ S := by rw [h]; simp
    have hn : getC X c.id = none := getC_none.2 fun d hd e => by
      have hu := hS.uq
      rw [h] at hu
      exact (List.pairwise_append.1 hu).2.2 d hd c List.mem_cons_self e
    have ho : openN (X ++ [c]) ≤ 64 := by
      have := hS.few
      rw [h, show X ++ c :: Y = (X ++ [c]) ++ Y by simp, openN_app] at this
      omega
    rw [List.foldl_cons, put_new (hS.proper c hc) hn (hl X c Y h) ho]
    exact page_all Y (X ++ [c]) S (by rw [h]; simp) hS hl
theorem before {S A B X Y : List Cl} {c d : Cl} (hS : S.Nodup) (h1 : S = X ++ c :: Y) (h2 : S = A ++ d :: B) (hc : c ∈ B) : d ∈ X := by
  have h := h1.symm.trans h2
  rcases List.append_eq_append_iff.1 h with ⟨a, ha, hb⟩ | ⟨a, ha, hb⟩
  · cases a with
    | nil =>
      simp at hb
      obtain ⟨rfl, rfl⟩ := hb
      rw [h2] at hS
      exact absurd hc (List.nodup_cons.1 (List.nodup_append.1 hS).2.1).1
    | cons x a =>
      simp at hb
      obtain ⟨rfl, hb⟩ := hb
      rw [h2] at hS
      have := (List.nodup_append.1 hS).2.2 c (by rw [ha]; simp) c (List.mem_cons_of_mem _ hc)
      exact absurd rfl this
  · cases a with
    | nil =>
      simp at hb
      obtain ⟨rfl, rfl⟩ := hb
      rw [h2] at hS
      exact absurd hc (List.nodup_cons.1 (List.nodup_append.1 hS).2.1).1
    | cons x a =>
      simp at hb
      obtain ⟨rfl, hb⟩ := hb
      rw [ha]
      simp
theorem page_walk {L : List Cl} (h : Pg L) : pageS (walkS L) = walkS L := by
  have hp := walk_perm h.tr
  refine page_all _ [] _ rfl (h.perm hp.symm) fun A c B hS => ?_
  have hc : c ∈ walkN (L.length + 1) L z2 := by show c ∈ walkS L; rw [hS]; simp
  rcases walk_below hc with h1 | ⟨A', d, B', h1, h2, h3⟩
  · exact .inl h1
  · exact .inr ⟨d, before (uq_nodup (walk_uq h.tr)) hS h1 h3, h2⟩
theorem walk_page {L : List Cl} (h : Pg L) : walkS (pageS (walkS L)) = walkS L := by
  rw [page_walk h]
  exact walkS_perm (walk_uq h.tr) (walk_perm h.tr)

/-! ### what Find finds -/
theorem find_cases {l : List Cl} (hu : Uq l) (t : St2) : (getC l t = none ∧ findS l t = -1) ∨ ∃ (k : Nat) (c : Cl), getC l t = some c ∧ l[k]? = some c ∧ findS l t = (k : Int) := by
  cases hg : getC l t with
  | none =>
    exact .inl ⟨rfl, find_no fun j d _ hd => getC_none.1 hg d (List.mem_of_getElem? hd)⟩
  | some c =>
    obtain ⟨hc, hid⟩ := getC_mem hg
    obtain ⟨k, hk⟩ := List.getElem?_of_mem hc
    refine .inr ⟨k, c, rfl, hk, find_at (fun j d hj hd e => ?_) hk hid⟩
    have hdc : d = c := uq_one hu (List.mem_of_getElem? hd) hc (e.trans hid.symm)
    subst hdc
    obtain ⟨h1, h2⟩ := List.getElem?_eq_some_iff.1 hk
    obtain ⟨h3, h4⟩ := List.getElem?_eq_some_iff.1 hd
    have := (List.pairwise_iff_getElem.1 (uq_nodup hu)) j k h3 h1 hj
    exact this (h4.trans h2.symm)
theorem find_split {A B : List Cl} {c : Cl} (hu : Uq (A ++ c :: B)) : findS (A ++ c :: B) c.id = (A.length : Int) := by
  refine find_at (fun j d hj hd e => ?_) (by simp) rfl
  rw [List.getElem?_append_left hj] at hd
  exact (List.pairwise_append.1 hu).2.2 d (List.mem_of_getElem? hd) c List.mem_cons_self e
theorem find_none {l : List Cl} {t : St2} (h : ∀ c ∈ l, c.id ≠ t) : findS l t = -1 := find_no fun _ d _ hd => h d (List.mem_of_getElem? hd)
theorem getC_walk {L : List Cl} (h : Pg L) (t : St2) : getC (walkS L) t = getC L t := getC_perm (walk_uq h.tr) (walk_perm h.tr) t

/-! ### Refuses -/
theorem join_err {L M : List Cl} (h : (joinS L M).2 ≠ 0) : (joinS L M).1 = L := by
  unfold joinS at *
  split
  · rfl
  · rename_i A hA
    rw [hA] at h
    split
    · rfl
    · rename_i hf
      simp only [if_neg hf] at h
      exact absurd rfl h
theorem put_err {L : List Cl} {c : Cl} (h : (putS L c).2 ≠ 0) : (putS L c).1 = L := by
  unfold putS at *
  split
  · rfl
  · rename_i hp
    rw [if_neg hp] at h
    split
    · rename_i old ho
      simp only [ho] at h
      split
      · rename_i hs
        rw [if_pos hs] at h
        exact absurd rfl h
      · rfl
    · rename_i ho
      simp only [ho] at h
      split
      · rfl
      · rename_i h1
        rw [if_neg h1] at h
        split
        · rfl
        · rename_i h2
          rw [if_neg h2] at h
          exact absurd rfl h
theorem put_arg (L : List Cl) (c : Cl) : ((putS L c).2 = 1 ↔ properC c = false) ∧ ((putS L c).2 = 9 ↔ properC c = true ∧ ∃ old, getC L c.id = some old ∧ sameC old c = false) := by
  unfold putS
  cases hp : properC c with
  | false => simp
  | true =>
    simp only [Bool.true_eq_false, if_false, iff_false, true_and]
    cases hg : getC L c.id with
    | some old => cases hs : sameC old c <;> simp [hs]
    | none =>
      simp only [reduceCtorEq, false_and, exists_false, iff_false]
      split
      · simp
      · split <;> simp

/-! ### Converges -/
theorem walk_join_eq {L M : List Cl} (h : Uq L) (p : L.Perm M) : walkS L = walkS M := walkS_perm h p
theorem join_zero {L M : List Cl} (h : (joinS L M).2 = 0) : ∃ A, addAll L M = some A ∧ (joinS L M).1 = A ∧ openN A ≤ 64 := by
  unfold joinS at *
  cases hA : addAll L M with
  | none => rw [hA] at h; simp at h
  | some A =>
    rw [hA] at h
    simp only at h ⊢
    by_cases hf : 64 < openN A
    · rw [if_pos hf] at h; simp at h
    · rw [if_neg hf]; exact ⟨A, rfl, rfl, Nat.le_of_not_lt hf⟩
theorem add_comm {L M A B : List Cl} (h : Uq L) (hm : Uq M) (hA : addAll L M = some A) (hB : addAll M L = some B) : A.Perm B := by
  obtain ⟨k1, k2⟩ := addAll_some h hm hA
  obtain ⟨k3, k4⟩ := addAll_some hm h hB
  exact perm_of_getC k1 k3 fun t => by rw [(k2 t).2, (k4 t).2]; exact mrgO_comm (k2 t).1
theorem add_both {L M : List Cl} (h : Uq L) (hm : Uq M) : addAll L M = none ↔ addAll M L = none := by
  rw [addAll_none h hm, addAll_none hm h]
  constructor <;> (rintro ⟨t, ht⟩; exact ⟨t, by rw [okO_comm]; exact ht⟩)
theorem join_both {L M : List Cl} (h : Uq L) (hm : Uq M) : (joinS L M).2 = (joinS M L).2 ∧ ((joinS L M).2 = 0 → (joinS L M).1.Perm (joinS M L).1) := by
  unfold joinS
  cases hA : addAll L M with
  | none =>
    rw [(add_both h hm).1 hA]
    exact ⟨rfl, fun h => by simp at h⟩
  | some A =>
    cases hB : addAll M L with
    | none => rw [(add_both h hm).2 hB] at hA; cases hA
    | some B =>
      have hp := add_comm h hm hA hB
      have ho := openN_perm hp
      simp only
      rw [ho]
      split
      · exact ⟨rfl, fun h => by simp at h⟩
      · exact ⟨rfl, fun _ => hp⟩
theorem okO_self (x : Option Cl) : okO x x = true := by
  cases x with
  | none => rfl
  | some a => exact sameC_iff.2 ⟨rfl, rfl, rfl⟩
theorem mrgO_self (x : Option Cl) : mrgO x x = x := by
  cases x with
  | none => rfl
  | some a =>
    show some (mrgC a a) = some a
    congr 1
    exact Cl.ext' rfl rfl rfl (Bool.or_self _)
theorem join_self {L : List Cl} (h : Pg L) : (joinS L L).2 = 0 ∧ (joinS L L).1.Perm L := by
  unfold joinS
  cases hA : addAll L L with
  | none =>
    obtain ⟨t, ht⟩ := (addAll_none h.uq h.uq).1 hA
    rw [okO_self] at ht
    cases ht
  | some A =>
    obtain ⟨k1, k2⟩ := addAll_some h.uq h.uq hA
    have hp : A.Perm L := perm_of_getC k1 h.uq fun t => by rw [(k2 t).2, mrgO_self]
    simp only
    rw [openN_perm hp, if_neg (Nat.not_lt.2 h.few)]
    exact ⟨rfl, hp⟩
theorem mrg_three {x y z : Option Cl} (h1 : okO x y = true) (h2 : okO z y = true) (h3 : okO (mrgO x y) z = true) (h4 : okO (mrgO z y) x = true) : mrgO (mrgO x y) z = mrgO (mrgO z y) x := by
  cases x with
  | none =>
    cases y with
    | none => cases z <;> rfl
    | some b =>
      cases z with
      | none => rfl
      | some c => exact mrgO_comm (x := some b) (y := some c) h3
  | some a =>
    cases y with
    | none =>
      cases z with
      | none => rfl
      | some c => exact mrgO_comm (x := some a) (y := some c) h3
    | some b =>
      cases z with
      | none => exact mrgO_comm (x := some a) (y := some b) h1
      | some c =>
        obtain ⟨a1, a2, a3⟩ := sameC_iff.1 h1
        obtain ⟨b1, b2, b3⟩ := sameC_iff.1 h2
        show some (mrgC (mrgC a b) c) = some (mrgC (mrgC c b) a)
        congr 1
        refine Cl.ext' (a1.trans b1.symm) (a2.trans b2.symm) (a3.trans b3.symm) ?_
        show (a.gone || b.gone || c.gone) = (c.gone || b.gone || a.gone)
        cases a.gone <;> cases b.gone <;> cases c.gone <;> rfl
theorem join_three {L M N : List Cl} (hl : Pg L) (hm : Pg M) (hn : Pg N) (h1 : (joinS L M).2 = 0) (h2 : (joinS N M).2 = 0) (h3 : (joinS (joinS L M).1 N).2 = 0) (h4 : (joinS (joinS N M).1 L).2 = 0) :
    (joinS (joinS L M).1 N).1.Perm (joinS (joinS N M).1 L).1 := by
  obtain ⟨A, a1, a2, -⟩ := join_zero h1
  obtain ⟨B, b1, b2, -⟩ := join_zero h2
  rw [a2] at h3 ⊢
  rw [b2] at h4 ⊢
  obtain ⟨C, c1, c2, -⟩ := join_zero h3
  obtain ⟨D, d1, d2, -⟩ := join_zero h4
  rw [c2, d2]
  obtain ⟨uA, gA⟩ := addAll_some hl.uq hm.uq a1
  obtain ⟨uB, gB⟩ := addAll_some hn.uq hm.uq b1
  obtain ⟨uC, gC⟩ := addAll_some uA hn.uq c1
  obtain ⟨uD, gD⟩ := addAll_some uB hl.uq d1
  refine perm_of_getC uC uD fun t => ?_
  have e1 := gC t
  have e2 := gD t
  rw [(gA t).2] at e1
  rw [(gB t).2] at e2
  rw [e1.2, e2.2]
  exact mrg_three (gA t).1 (gB t).1 e1.1 e2.1

/-! ### Gone -/
theorem drop_find {L : List Cl} (h : Pg L) (t : St2) : ((dropS L t).2 = 0 ↔ 0 ≤ findS (walkS L) t) := by
  unfold dropS
  rcases find_cases (walk_uq h.tr) t with ⟨h1, h2⟩ | ⟨k, c, h1, h2, h3⟩
  · rw [getC_walk h] at h1
    rw [h1, h2]
    simp
  · rw [getC_walk h] at h1
    rw [h1, h3]
    simp
def goneC (c : Cl) : Cl := { c with gone := true }
theorem drop_list {L : List Cl} (h : Pg L) {t : St2} {k : Nat} {x : Cl} (hk : (walkS L)[k]? = some x) (hx : x.id = t) :
    walkS (dropS L t).1 = (walkS L).set k (goneC x) ∧ putS (dropS L t).1 x = ((dropS L t).1, 0) := by
  have hxL : x ∈ L := (walk_perm h.tr).mem_iff.1 (List.mem_of_getElem? hk)
  have hg : getC L t = some x := by rw [← hx]; exact getC_of h.uq hxL
  have hd : (dropS L t).1 = setC L (goneC x) := by unfold dropS; rw [hg]; rfl
  rw [hd]
  refine ⟨?_, ?_⟩
  · unfold setC
    rw [walkS_map (fun y => repC_id _ y) fun y hy => ?_]
    · apply List.ext_getElem?
      intro i
      rw [List.getElem?_map, List.getElem?_set]
      by_cases hi : k = i
      · subst hi
        rw [if_pos rfl, if_pos (List.getElem?_eq_some_iff.1 hk).1, hk]
        show some (repC (goneC x) x) = _
        unfold repC
        rw [if_pos (show x.id = (goneC x).id from rfl)]
      · rw [if_neg hi]
        cases hy : (walkS L)[i]? with
        | none => rfl
        | some y =>
          show some (repC (goneC x) y) = some y
          unfold repC
          rw [if_neg]
          intro e
          obtain ⟨h1, h2⟩ := List.getElem?_eq_some_iff.1 hk
          obtain ⟨h3, h4⟩ := List.getElem?_eq_some_iff.1 hy
          have hyx : y = x := uq_one (walk_uq h.tr) (List.mem_of_getElem? hy) (List.mem_of_getElem? hk) e
          have hnd := uq_nodup (walk_uq h.tr)
          have h5 := (List.pairwise_iff_getElem.1 hnd)
          rcases Nat.lt_or_gt_of_ne hi with hlt | hgt
          · exact h5 k i h1 h3 hlt (by rw [h2, h4, hyx])
          · exact h5 i k h3 h1 hgt (by rw [h2, h4, hyx])
    · unfold repC
      split
      · rename_i e
        have : y = x := uq_one h.uq hy hxL e
        rw [this]
        rfl
      · rfl
  · have hp := h.proper x hxL
    have hg2 : getC (setC L (goneC x)) x.id = some (goneC x) := by
      rw [getC_set, if_pos (show x.id = (goneC x).id from rfl), hx, hg]
      rfl
    unfold putS
    rw [if_neg (by rw [hp]; simp), hg2]
    simp only
    rw [if_pos (show sameC (goneC x) x = true from sameC_iff.2 ⟨rfl, rfl, rfl⟩)]
    congr 1
    show setC (setC L (goneC x)) (goneC x) = _
    unfold setC
    rw [List.map_map]
    apply List.map_congr_left
    intro y _
    show repC (goneC x) (repC (goneC x) y) = repC (goneC x) y
    by_cases hy : y.id = (goneC x).id
    · have : repC (goneC x) y = goneC x := by unfold repC; rw [if_pos hy]
      rw [this]
      unfold repC
      rw [if_pos rfl]
    · have : repC (goneC x) y = y := by unfold repC; rw [if_neg hy]
      rw [this, this]

/-! ### Stable -/
theorem put_zero_new {L : List Cl} {x : Cl} (hn : getC L x.id = none) (h : (putS L x).2 = 0) : (putS L x).1 = L ++ [x] ∧ properC x = true ∧ (x.after = z2 ∨ ∃ d ∈ L, d.id = x.after) := by
  unfold putS at *
  by_cases hp : properC x = false
  · rw [if_pos hp] at h; simp at h
  · rw [if_neg hp] at h ⊢
    rw [hn] at h ⊢
    simp only at h ⊢
    by_cases h1 : x.after ≠ z2 ∧ getC L x.after = none
    · rw [if_pos h1] at h; simp at h
    · rw [if_neg h1] at h ⊢
      by_cases h2 : x.gone = false ∧ 64 ≤ openN L
      · rw [if_pos h2] at h; simp at h
      · rw [if_neg h2]
        refine ⟨rfl, by simpa using hp, ?_⟩
        by_cases hz : x.after = z2
        · exact .inl hz
        · right
          cases hg : getC L x.after with
          | none => exact absurd ⟨hz, hg⟩ h1
          | some d => exact ⟨d, (getC_mem hg).1, (getC_mem hg).2⟩
theorem new_leaf {L : List Cl} (h : Pg L) {x : Cl} (hn : getC L x.id = none) (h' : Pg (L ++ [x])) : Leaf (L ++ [x]) L x where
  tr := h'.tr
  perm := by
    have := List.perm_append_comm (l₁ := L) (l₂ := [x])
    exact this
  leaf := fun c hc e => by
    rcases h.link c hc with h0 | ⟨d, hd, hde⟩
    · have := (h'.tr).pos x (by simp)
      rw [← e, h0] at this
      exact absurd this (by decide)
    · exact getC_none.1 hn d hd (hde.trans e)
theorem stable_law {L : List Cl} (h : Pg L) {x : Cl} (hn : findS (walkS L) x.id < 0) (h0 : (putS L x).2 = 0) :
    ∃ k : Nat, findS (walkS (putS L x).1) x.id = (k : Int) ∧ (walkS (putS L x).1)[k]? = some x ∧ (walkS (putS L x).1).length = (walkS L).length + 1 ∧
      (walkS (putS L x).1).take k ++ (walkS (putS L x).1).drop (k + 1) = walkS L ∧ findS (walkS (putS L x).1) x.after < (k : Int) ∧
      (x.after ≠ z2 → 0 ≤ findS (walkS (putS L x).1) x.after) ∧ ((∀ c ∈ walkS L, c.id.2 < x.id.2) → (k : Int) = findS (walkS (putS L x).1) x.after + 1) := by
  have hgn : getC L x.id = none := by
    rcases find_cases (walk_uq h.tr) x.id with ⟨h1, h2⟩ | ⟨k, c, h1, h2, h3⟩
    · rwa [getC_walk h] at h1
    · rw [h3] at hn; omega
  have h' := h.put x
  obtain ⟨e1, hp, hlink⟩ := put_zero_new hgn h0
  rw [e1] at h' ⊢
  have hlf := new_leaf h hgn h'
  obtain ⟨w1, w2⟩ := walk_leaf hlf h.tr (walk_perm h.tr)
  have hperm := walk_perm h'.tr
  have hu := walk_uq h'.tr
  have hxm : x ∈ walkS (L ++ [x]) := hperm.mem_iff.2 (by simp)
  obtain ⟨A, B, hAB⟩ := List.append_of_mem hxm
  have hz : ∀ c ∈ walkS (L ++ [x]), c.id ≠ z2 := fun c hc e => by
    have := (h'.tr).pos c (hperm.mem_iff.1 hc)
    rw [e] at this
    exact absurd this (by decide)
  refine ⟨A.length, by rw [hAB] at hu ⊢; exact find_split hu, by rw [hAB]; simp, ?_, ?_, ?_, ?_, ?_⟩
  · rw [hperm.length_eq, (walk_perm h.tr).length_eq]; simp
  · rw [← w2, hAB]
    rw [hAB] at hu
    have hnd := uq_nodup hu
    have hA : ∀ c ∈ A, c ≠ x := fun c hc => (List.nodup_append.1 hnd).2.2 c hc x List.mem_cons_self
    have hB : ∀ c ∈ B, c ≠ x := fun c hc e => (List.nodup_cons.1 (List.nodup_append.1 hnd).2.1).1 (e ▸ hc)
    rw [List.filter_append, List.filter_cons_of_neg (by simp), List.filter_eq_self.2 (fun c hc => by simpa using hA c hc), List.filter_eq_self.2 (fun c hc => by simpa using hB c hc)]
    simp
  · have hx2 : x ∈ walkN ((L ++ [x]).length + 1) (L ++ [x]) z2 := hxm
    rcases walk_below hx2 with h1 | ⟨A', d, B', h1, h2, h3⟩
    · rw [h1, find_none hz]; omega
    · have hd := before (uq_nodup hu) hAB h1 h3
      obtain ⟨j, hj⟩ := List.getElem?_of_mem hd
      obtain ⟨hj1, _⟩ := List.getElem?_eq_some_iff.1 hj
      have h4 : walkS (L ++ [x]) = A' ++ d :: B' := h1
      have h5 : findS (walkS (L ++ [x])) x.after = (j : Int) := by
        rw [← h2]
        have hA2 := List.append_of_mem (List.mem_of_getElem? hj)
        rcases find_cases hu d.id with ⟨k1, _⟩ | ⟨k, c, k1, k2, k3⟩
        · exact absurd rfl (getC_none.1 k1 d (by rw [h4]; simp))
        · have hcd : c = d := uq_one hu (List.mem_of_getElem? k2) (by rw [h4]; simp) (getC_mem k1).2
          have hj' : (walkS (L ++ [x]))[j]? = some d := by rw [hAB, List.getElem?_append_left hj1]; exact hj
          have hnd := List.pairwise_iff_getElem.1 (uq_nodup hu)
          rw [k3]
          obtain ⟨p1, p2⟩ := List.getElem?_eq_some_iff.1 k2
          obtain ⟨p3, p4⟩ := List.getElem?_eq_some_iff.1 hj'
          rcases Nat.lt_trichotomy k j with hlt | heq | hgt
          · exact absurd (by rw [p2, p4, hcd]) (hnd k j p1 p3 hlt)
          · rw [heq]
          · exact absurd (by rw [p2, p4, hcd]) (hnd j k p3 p1 hgt)
      rw [h5]
      omega
  · intro hne
    rcases hlink with h1 | ⟨d, hd, hde⟩
    · exact absurd h1 hne
    · rcases find_cases hu x.after with ⟨k1, _⟩ | ⟨k, c, k1, k2, k3⟩
      · exact absurd hde (getC_none.1 k1 d (hperm.mem_iff.2 (List.mem_append_left _ hd)))
      · rw [k3]; omega
  · intro hg
    have hg2 : ∀ c ∈ L ++ [x], c ≠ x → c.id.2 < x.id.2 := fun c hc hne => by
      rcases List.mem_append.1 hc with hc | hc
      · exact hg c ((walk_perm h.tr).mem_iff.2 hc)
      · simp at hc; exact absurd hc hne
    have hrk := rank_le (L ++ [x]) z2
    rcases walk_first h'.tr (x := x) (by simp) hg2 (n := (L ++ [x]).length + 1) (t := z2) (by omega) hxm with ⟨h1, B', h2⟩ | ⟨A', d, B', h1, h2⟩
    · have h3 : walkS (L ++ [x]) = [] ++ x :: B' := h2
      have h4 : A = [] := by
        cases A with
        | nil => rfl
        | cons a A =>
          rw [hAB] at h3 hu
          simp at h3
          have := (List.nodup_cons.1 (uq_nodup hu)).1
          rw [h3.1] at this
          exact absurd (by simp) this
      rw [h1, find_none hz, h4]
      rfl
    · have h3 : walkS (L ++ [x]) = (A' ++ [d]) ++ x :: B' := by rw [show walkS (L ++ [x]) = A' ++ d :: x :: B' from h1]; simp
      have h4 : A.length = A'.length + 1 := by
        have e1 := find_split (by rw [hAB] at hu; exact hu)
        have e2 := find_split (by rw [h3] at hu; exact hu)
        rw [← hAB] at e1
        rw [← h3] at e2
        rw [e1] at e2
        simp at e2
        omega
      have h5 : findS (walkS (L ++ [x])) x.after = (A'.length : Int) := by
        rw [← h2]
        have h6 : walkS (L ++ [x]) = A' ++ d :: x :: B' := h1
        rw [h6] at hu ⊢
        exact find_split hu
      rw [h5, h4]
      omega
end Go.Proofs.Ytaicbllfkehhjaa

/- A chamber, in plain words. No program in sight. -/
namespace Go.Proofs.Ytaicbllfkehhjaa

/-- The seats' pages; the messages from one seat to another, the oldest first. -/
structure Ch where
  pages : List (List Cl)
  lines : Nat → Nat → List (List Cl)
def Ch.pg (C : Ch) (i : Nat) : List Cl := C.pages.getD i []
def Ch.upd (C : Ch) (i : Nat) (L : List Cl) : Ch := { C with pages := C.pages.set i L }
def Ch.send (C : Ch) (i k : Nat) (m : List Cl) : Ch := { C with lines := fun a b => if a = i ∧ b = k then C.lines a b ++ [m] else C.lines a b }
/-- To all others. -/
def Ch.tell (C : Ch) (i : Nat) (x : Cl) : Ch := { C with lines := fun a b => if a = i ∧ b ≠ i ∧ b < C.pages.length then C.lines a b ++ [[x]] else C.lines a b }
def newS (n : Nat) : Ch := ⟨List.replicate n [], fun _ _ => []⟩
def cntS (l : List Cl) : Int := l.foldl (fun a y => max a (y.id.2 + 1)) 1
def newC (i : Nat) (L : List Cl) (after : St2) (p : Pt) : Cl := ⟨((i : Int), cntS (walkS L)), after, p, false⟩
def proposeS (C : Ch) (i : Nat) (after : St2) (p : Pt) : Ch × St2 × Int :=
  if after ≠ z2 ∧ getC (walkS (C.pg i)) after = none then (C, z2, 11) else
  if 1000000 < cntS (walkS (C.pg i)) then (C, z2, 2) else
  if (putS (C.pg i) (newC i (C.pg i) after p)).2 ≠ 0 then (C, z2, (putS (C.pg i) (newC i (C.pg i) after p)).2) else
  ((C.upd i (putS (C.pg i) (newC i (C.pg i) after p)).1).tell i (newC i (C.pg i) after p), (newC i (C.pg i) after p).id, 0)
def withdrawS (C : Ch) (i : Nat) (id : St2) : Ch × Int :=
  if id.1 ≠ (i : Int) then (C, 12) else
  match getC (C.pg i) id with
  | none => (C, 11)
  | some c => ((C.upd i (dropS (C.pg i) id).1).tell i (goneC c), 0)
def putAll (L m : List Cl) : List Cl := m.foldl (fun a c => (putS a c).1) L
def deliverS (C : Ch) (a b : Nat) (lost : Bool) : Ch × Bool :=
  if a = b then (C, false) else
  match C.lines a b with
  | [] => (C, false)
  | m :: q => ((if lost then C else C.upd b (putAll (C.pg b) m)) |> fun D => { D with lines := fun x y => if x = a ∧ y = b then q else C.lines x y }, true)
def againS (C : Ch) (a b : Nat) : Ch × Int := if a = b then (C, 1) else (C.send a b (walkS (C.pg a)), 0)
def settledS (C : Ch) : Bool := C.pages.all fun L => decide (walkS L = walkS (C.pg 0))
theorem cntS_fold : ∀ (l : List Cl) (a : Int), a ≤ l.foldl (fun a y => max a (y.id.2 + 1)) a ∧ ∀ c ∈ l, c.id.2 < l.foldl (fun a y => max a (y.id.2 + 1)) a
  | [], a => ⟨Int.le_refl _, fun c hc => by cases hc⟩
  | y :: l, a => by
    obtain ⟨h1, h2⟩ := cntS_fold l (max a (y.id.2 + 1))
    rw [List.foldl_cons]
    refine ⟨by omega, fun c hc => ?_⟩
    rcases List.mem_cons.1 hc with rfl | hc
    · omega
    · exact h2 c hc
theorem cntS_one (l : List Cl) : 1 ≤ cntS l := (cntS_fold l 1).1
theorem cntS_lt {l : List Cl} {c : Cl} (h : c ∈ l) : c.id.2 < cntS l := (cntS_fold l 1).2 c h
end Go.Proofs.Ytaicbllfkehhjaa

/- The reference: Content, Same, Patches; the law's order. -/
namespace Go.Proofs.Ytaicbllfkehhjaa
open Go.RowKit

theorem load_ptg {ops : Array Oper} {rest : List Oper} {o : Oper} {a : Act} {W : World} {Q : Exit → Act → World → Prop} (hw : Region.wanted o (yielded ops a.tmps) = true) {x : Operand} (ho : o.op = .load 37 x) {g : Nat} {c : Cl} (hx : a.eval x = .pointer (some ⟨g, 4, none⟩))
    (hb : Blk W g 56 (clA c)) (h : wpList Try.prog ops Q rest (a.put o.dst (.agg (ptA c.pt))) W) : wpList Try.prog ops Q (o :: rest) a W := by
  unfold wpList
  rw [if_pos hw]
  refine .inl ?_
  unfold Oper.wp execOp
  simp only [ho, hx, Instr.loadAt, Instr.sureAddr, Sem.run_bind, Sem.run_pure, Result.andThen_ok, pt_load hb]
  exact h
set_option maxRecDepth 100000 in
set_option maxHeartbeats 8000000 in
theorem rContent_any (w : World) (a b : Cl) : Calls Try.prog 52 #[.agg (clA a), .agg (clA b)] w fun e w' => e = .returned (.bool (sameC a b)) ∧ Below w.heap.size w w' := by
  have kA : Blk ((w.alloc (.cells (clA a) 56)).alloc (.cells (clA b) 56)) w.heap.size 56 (clA a) := (Blk.new w _ _).alloc _
  have kB := Blk.new1 w (.cells (clA a) 56) 56 (clA b)
  have hb : Below w.heap.size w ((w.alloc (.cells (clA a) 56)).alloc (.cells (clA b) 56)) := ((Below.refl w.heap.size w).alloc (Nat.le_refl _) _).alloc (by simp) _
  have h1 : ∀ W : World, (Op.equalIn 10000 33 (.agg #[.int .i64 a.id.1, .int .i64 a.id.2]) (.agg #[.int .i64 b.id.1, .int .i64 b.id.2])).run Try.prog W = .ok (decide (a.id = b.id)) W := eq_st a.id b.id
  have h2 : ∀ W : World, (Op.equalIn 10000 33 (.agg #[.int .i64 a.after.1, .int .i64 a.after.2]) (.agg #[.int .i64 b.after.1, .int .i64 b.after.2])).run Try.prog W = .ok (decide (a.after = b.after)) W := eq_st a.after b.after
  have h3 : ∀ W : World, (Op.equalIn 10000 37 (.agg (ptA a.pt)) (.agg (ptA b.pt))).run Try.prog W = .ok (decide (a.pt = b.pt)) W := eq_pt a.pt b.pt
  have hs : sameC a b = (decide (a.id = b.id) && (decide (a.after = b.after) && decide (a.pt = b.pt))) := by unfold sameC; simp [Bool.decide_and]
  rw [hs]
  obtain ⟨b1, e1⟩ : ∃ q, decide (a.id = b.id) = q := ⟨_, rfl⟩
  obtain ⟨b2, e2⟩ : ∃ q, decide (a.after = b.after) = q := ⟨_, rfl⟩
  obtain ⟨b3, e3⟩ : ∃ q, decide (a.pt = b.pt) = q := ⟨_, rfl⟩
  rw [e1] at h1 ⊢
  rw [e2] at h2 ⊢
  rw [e3] at h3 ⊢
  clear e1 e2 e3 hs
  obtain ⟨a0, a1, a2, a3, -⟩ := cl_cells kA
  obtain ⟨c0, c1, c2, c3, -⟩ := cl_cells kB
  have KA := Lib.hid kA
  have KB := Lib.hid kB
  clear kA kB
  obtain ⟨CA, hCA⟩ : ∃ x, clA a = x := ⟨_, rfl⟩
  obtain ⟨CB, hCB⟩ : ∃ x, clA b = x := ⟨_, rfl⟩
  obtain ⟨PA, hPA⟩ : ∃ x, ptA a.pt = x := ⟨_, rfl⟩
  obtain ⟨PB, hPB⟩ : ∃ x, ptA b.pt = x := ⟨_, rfl⟩
  rw [hPA, hPB] at h3
  rw [hCA, hCB] at KA KB hb a0 a1 a2 a3 c0 c1 c2 c3 ⊢
  have HCA := Lib.hid hCA
  have HCB := Lib.hid hCB
  have HPA := Lib.hid hPA
  have HPB := Lib.hid hPB
  clear hCA hCB hPA hPB
  go_enter Try.func52, Try.ntmps52
  go_upto_region 1 with fail
  generalize (w.alloc (.cells CA 56)).alloc (.cells CB 56) = W at *
  cases b1 with
  | false =>
    go_wp2
    go_ret
    exact ⟨rfl, hb⟩
  | true =>
    cases b2 with
    | false =>
      go_wp2
      go_ret
      exact ⟨rfl, hb⟩
    | true =>
      go_wp2_with (first
        | (refine load_ptg (x := .tmp 18) rfl rfl (g := w.heap.size) rfl (c := a) (by rw [HCA.out]; exact KA.out) ?_; rw [HPA.out])
        | (refine load_ptg (x := .tmp 20) rfl rfl (g := w.heap.size + 1) rfl (c := b) (by rw [HCB.out]; exact KB.out) ?_; rw [HPB.out]))
      go_ret
      exact ⟨by cases b3 <;> rfl, hb⟩

theorem exec_load_at {ev : Operand → Value} {o : Oper} {W : World} {x : Operand} (ho : o.op = .load 56 x) {B g off i : Nat} {A : Option Addr} {l : List Cl} (hx : ev x = .pointer (some ⟨g, off + i * 20, none⟩))
    (hr : ClsAt W B A l) (hA : A = some ⟨g, off, none⟩) {c : Cl} (hi : l[i]? = some c) : (execOp ev o).run Try.prog W = .ok (.value (.agg (clA c))) W := by
  unfold execOp
  simp only [ho, hx, Instr.loadAt, Instr.sureAddr, Sem.run_bind, Sem.run_pure, Result.andThen_ok, at_load hr hi hA]
theorem ClsAt.drewN {w : World} {B : Nat} {A : Option Addr} {l : List Cl} (h : ClsAt w B A l) (n : Nat) : ClsAt (w.drewN n) B A l := h
theorem ClsAt.drew {w : World} {B : Nat} {A : Option Addr} {l : List Cl} (h : ClsAt w B A l) : ClsAt w.drew B A l := h
theorem eq_step {α : Type} {l m : List α} {k : Nat} {x : α} (h : l.take k = m.take k) (hx : l[k]? = some x) (hy : m[k]? = some x) : l.take (k + 1) = m.take (k + 1) := by
  rw [List.take_add_one, List.take_add_one, h, hx, hy]
set_option maxRecDepth 100000 in
set_option maxHeartbeats 8000000 in
theorem rSame_any (w : World) (B1 B2 : Nat) (A1 A2 : Option Addr) (cap1 cap2 : Nat) (l m : List Cl) (h1 : ClsAt w B1 A1 l) (h2 : ClsAt w B2 A2 m) (hl : l.length ≤ 1000000) (hm : m.length ≤ 1000000) :
    Calls Try.prog 19 #[.slice A1 l.length cap1, .slice A2 m.length cap2] w fun e w' => e = .returned (.bool (decide (l = m))) ∧ ∃ n, w' = w.drewN n := by
  have H1 := Lib.hid h1
  have H2 := Lib.hid h2
  obtain ⟨N, hN⟩ : ∃ N, l.length = N := ⟨_, rfl⟩
  obtain ⟨M, hM⟩ : ∃ M, m.length = M := ⟨_, rfl⟩
  obtain ⟨R, hR⟩ : ∃ R, decide (l = m) = R := ⟨_, rfl⟩
  rw [hN] at hl ⊢
  rw [hM] at hm ⊢
  rw [hR]
  have HN := Lib.hid hN
  have HM := Lib.hid hM
  have HR := Lib.hid hR
  clear h1 h2 hN hM hR
  go_enter Try.func19, Try.ntmps19
  by_cases hNM : N = M
  · subst hNM
    go_wp2_with fail
    go_loopw [5] (fun i wr => ∃ k nq : Nat, wr = w.drewN nq ∧ k ≤ N ∧ i = .int .i64 (k : Int) ∧ Hid (l.take k = m.take k)) (fun i _ => N - (intOf i).toNat)
    case atStart => exact ⟨0, 0, rfl, Nat.zero_le _, rfl, Lib.hid rfl⟩
    case round =>
      obtain ⟨k, nq, rfl, hk, rfl, HK⟩ := hrel
      by_cases hkN : k < N
      · obtain ⟨c, hc⟩ : ∃ c, l[k]? = some c := ⟨_, List.getElem?_eq_getElem (by rw [HN.out]; exact hkN)⟩
        obtain ⟨d, hd⟩ : ∃ d, m[k]? = some d := ⟨_, List.getElem?_eq_getElem (by rw [HM.out]; exact hkN)⟩
        obtain ⟨g1, o1, rfl, -, -⟩ := H1.out k c hc
        obtain ⟨g2, o2, rfl, -, -⟩ := H2.out k d hd
        have e1 : decide ((k : Int) < (N : Int)) = true := decide_eq_true (by omega)
        have hez := eq_cl c d
        have HKN := Lib.hid hkN
        have HC := Lib.hid hc
        have HD := Lib.hid hd
        have HEZ := Lib.hid hez
        clear hc hd hez hkN
        go_upto_region 6 with fail
        refine wp_region_hold (fun W => ClsAt W B1 (some ⟨g1, o1, none⟩) l ∧ ClsAt W B2 (some ⟨g2, o2, none⟩) m) [0, 1, 2, 3, 4, 5, 6, 7] [] [8] (by kernel_rfl) (by kernel_rfl) (fun _ d _ _ _ h => by cases d <;> exact h) ⟨H1.out.drewN (nq + 1), H2.out.drewN (nq + 1)⟩ ?_
        simp only [pick, List.drop_succ_cons, List.drop_zero, List.head?_cons, Option.toList_some, List.cons_append, List.nil_append, List.append_nil]
        have hkN := HKN.out
        iterate 3 (refine wpHeld_step ?_ rfl ?_ ?_; rotate_left; · (intro W hW; go_simp; with_reducible rfl))
        refine wpHeld_step ?_ rfl ?_ ?_
        rotate_left
        · intro W hW; refine exec_load_at (x := .tmp 19) ?_ ?_ hW.1 rfl HC.out <;> rfl
        iterate 3 (refine wpHeld_step ?_ rfl ?_ ?_; rotate_left; · (intro W hW; go_simp; with_reducible rfl))
        refine wpHeld_step ?_ rfl ?_ ?_
        rotate_left
        · intro W hW; refine exec_load_at (x := .tmp 23) ?_ ?_ hW.2 rfl HD.out <;> rfl
        refine wpHeld_nil ?_
        simp only [wpEarly]
        have hez := HEZ.out
        clear HEZ
        by_cases he : c = d
        · have HK2 := Lib.hid (eq_step HK.out HC.out (by rw [he]; exact HD.out))
          rw [decide_eq_true he] at hez
          clear he HK HC HD
          generalize clA c = CC at *
          generalize clA d = CD at *
          go_wp2_with fail
          refine ⟨⟨k + 1, nq + 1, rfl, HKN.out, by go_num, HK2⟩, ?_⟩
          have := HKN.out
          simp [intOf]
          omega
        · obtain rfl : R = false := by
            rw [← HR.out]
            refine decide_eq_false fun e => he ?_
            have h3 := HC.out
            rw [e, HD.out] at h3
            exact (Option.some.inj h3).symm
          rw [decide_eq_false he] at hez
          clear he HK HC HD
          generalize clA c = CC at *
          generalize clA d = CD at *
          go_wp2
          go_ret
          exact ⟨rfl, nq + 1, rfl⟩
      · obtain rfl : k = N := by omega
        obtain rfl : R = true := by
          rw [← HR.out]
          refine decide_eq_true ?_
          have h3 := HK.out
          rw [← HN.out, List.take_length, HN.out, ← HM.out, List.take_length] at h3
          exact h3
        clear HK
        go_wp2
        go_ret
        exact ⟨rfl, nq, rfl⟩
  · have e1 : ((N : Int) != (M : Int)) = true := by simpa using fun h => hNM (by omega)
    obtain rfl : R = false := by
      rw [← HR.out]
      refine decide_eq_false fun e => hNM ?_
      rw [← HN.out, ← HM.out, e]
    go_wp2
    go_ret
    exact ⟨rfl, 0, rfl⟩
end Go.Proofs.Ytaicbllfkehhjaa

/- Pages in a law: what the calls leave. -/
namespace Go.Proofs.Ytaicbllfkehhjaa
open Go.RowKit

/-- A page of the law's: at p, its map at b, at most n clauses. -/
structure PP (w : World) (base p b n : Nat) (L : List Cl) : Prop where
  at_ : PgAt w p b L
  lo : base ≤ p
  lob : base ≤ b
  pg : Pg L
  len : L.length ≤ n
theorem pg_bound {L : List Cl} (h : Pg L) : ∀ c ∈ L, -4000000 ≤ c.id.1 ∧ c.id.1 ≤ 4000000 ∧ -4000000 ≤ c.id.2 ∧ c.id.2 ≤ 4000000 := fun c hc => by
  have := (properC_iff.1 (h.proper c hc)).1
  omega
section
variable {w w' : World} {base p b n : Nat} {L : List Cl}
theorem PP.below (h : PP w base p b n L) (k : Below w.heap.size w w') : PP w' base p b n L := ⟨h.at_.below k, h.lo, h.lob, h.pg, h.len⟩
theorem PP.only {F : Foot} (h : PP w base p b n L) (k : Only F w w') (h1 : ¬ F p) (h2 : ¬ F b) : PP w' base p b n L := ⟨h.at_.only k h1 h2, h.lo, h.lob, h.pg, h.len⟩
theorem PP.drewN (h : PP w base p b n L) (q : Nat) : PP (w.drewN q) base p b n L := h.below ⟨rfl, rfl, rfl, Nat.le_refl _, fun _ _ => rfl⟩
theorem PgAt.nep {q d : Nat} {M : List Cl} (h : PgAt w p b L) (k : PgAt w q d M) : p ≠ d := by
  obtain ⟨L', ⟨es, clock, k1, _⟩, _⟩ := k.map
  have := h.blk
  unfold Blk at this
  intro e
  rw [e, k1] at this
  cases this
/-- What a change of one page's map leaves of another page. -/
theorem PP.far {q d m : Nat} {M : List Cl} (h : PP w base p b n L) (k : PP w base q d m M) (hne : b ≠ d) (o : Only (fun i => i = d) w w') : PP w' base p b n L := h.only o (h.at_.nep k.at_) hne
theorem PP.farp {q d m : Nat} {M : List Cl} (h : PP w base p b n L) (k : PP w base q d m M) (hne : p ≠ q) (o : Only (fun i => i = q) w w') : PP w' base p b n L := h.only o hne fun e => k.at_.nep h.at_ e.symm
theorem OwnCls.below {v : Value} {l : List Cl} {B : Nat} (h : OwnCls w B v l) (k : Below w.heap.size w w') : OwnCls w' B v l := (Only.of_below k fun _ => False).owns h fun _ _ => id
theorem OwnCls.dN {v : Value} {l : List Cl} {B : Nat} (h : OwnCls w B v l) (q : Nat) : OwnCls (w.drewN q) B v l := h
theorem OwnCls.far {v : Value} {l : List Cl} {B : Nat} (h : OwnCls w B v l) (k : PgAt w p b L) (o : Only (fun i => i = b) w w') : OwnCls w' B v l := o.owns h fun g hg e => by
  obtain ⟨L', k1, _⟩ := k.map
  exact h.ne_map k1 (by rw [hg, e])
theorem OwnCls.farp {v : Value} {l : List Cl} {B : Nat} (h : OwnCls w B v l) (k : PgAt w p b L) (o : Only (fun i => i = p) w w') : OwnCls w' B v l := o.owns h fun g hg e => h.ne_blk k.blk (by decide) (by rw [hg, e])
theorem OwnCls.len {v : Value} {l : List Cl} {B : Nat} (h : OwnCls w B v l) : ∃ A cap, v = .slice A l.length cap := by
  obtain ⟨A, cap, h1, _⟩ := h.form
  exact ⟨A, cap, h1⟩
end

theorem pp_list (w : World) {base p b n : Nat} {L : List Cl} (h : PP w base p b n L) (hn : n ≤ 100000) :
    Calls Try.prog 40 #[.pointer (some ⟨p, 0, none⟩)] w fun e w' => ∃ v, e = .returned v ∧ OwnCls w' w.heap.size v (walkS L) ∧ Below w.heap.size w w' :=
  list_any w p b L h.at_ h.pg.tr (pg_bound h.pg) (by have := h.len; omega)
theorem pp_put (w : World) {base p b n : Nat} {L : List Cl} (h : PP w base p b n L) (hn : n ≤ 100000) (c : Cl) :
    Calls Try.prog 46 #[.pointer (some ⟨p, 0, none⟩), .agg (clA c)] w fun e w' => e = .returned (.int .i64 (putS L c).2) ∧ PP w' base p b (n + 1) (putS L c).1 ∧ Only (fun i => i = b) w w' :=
  (put_any w p b L h.at_ h.pg.uq (by have := h.len; omega) c).mono fun e w' ⟨h1, h2, h3⟩ => ⟨h1, ⟨h2, h.lo, h.lob, h.pg.put c, Nat.le_trans (putS_len L c) (Nat.succ_le_succ h.len)⟩, h3⟩
theorem dropS_len (L : List Cl) (t : St2) : (dropS L t).1.length = L.length := by
  unfold dropS setC
  split <;> simp
theorem pp_drop (w : World) {base p b n : Nat} {L : List Cl} (h : PP w base p b n L) (t : St2) :
    Calls Try.prog 49 #[.pointer (some ⟨p, 0, none⟩), .agg (stA t)] w fun e w' => e = .returned (.int .i64 (dropS L t).2) ∧ PP w' base p b n (dropS L t).1 ∧ Only (fun i => i = b) w w' :=
  (drop_any w p b L h.at_ h.pg.uq t).mono fun e w' ⟨h1, h2, h3⟩ => ⟨h1, ⟨h2, h.lo, h.lob, h.pg.drop t, by rw [dropS_len]; exact h.len⟩, h3⟩
theorem joinS_len (L M : List Cl) : (joinS L M).1.length ≤ L.length + M.length := by
  unfold joinS
  split
  · simp
  · rename_i A hA
    have := addAll_len hA
    split
    · simp
    · exact this
theorem own_same (w : World) {B1 B2 : Nat} {v1 v2 : Value} {l m : List Cl} (h1 : OwnCls w B1 v1 l) (h2 : OwnCls w B2 v2 m) (hl : l.length ≤ 1000000) (hm : m.length ≤ 1000000) :
    Calls Try.prog 19 #[v1, v2] w fun e w' => e = .returned (.bool (decide (l = m))) ∧ ∃ n, w' = w.drewN n := by
  obtain ⟨A1, c1, rfl, k1⟩ := h1.form
  obtain ⟨A2, c2, rfl, k2⟩ := h2.form
  exact rSame_any w _ _ A1 A2 c1 c2 l m k1 k2 hl hm
theorem own_find (w : World) {B : Nat} {v : Value} {l : List Cl} (h : OwnCls w B v l) (hl : l.length ≤ 1000000) (t : St2) :
    Calls Try.prog 26 #[v, .agg (stA t)] w fun e w' => e = .returned (.int .i64 (findS l t)) ∧ Below w.heap.size w w' := by
  obtain ⟨A, c, rfl, k⟩ := h.form
  exact rFind_any w _ A c l k (Nat.le_refl _) hl t
theorem own_open (w : World) {B : Nat} {v : Value} {l : List Cl} (h : OwnCls w B v l) (hl : l.length ≤ 1000000) :
    Calls Try.prog 53 #[v] w fun e w' => e = .returned (.int .i64 (openN l : Nat)) ∧ w' = w := by
  obtain ⟨A, c, rfl, k⟩ := h.form
  exact rOpen_any w _ A c l k hl
theorem walk_len {L : List Cl} (h : Pg L) : (walkS L).length = L.length := (walk_perm h.tr).length_eq
end Go.Proofs.Ytaicbllfkehhjaa

/- Reading arguments: a slice of structs whose fields are one cell each. Over any program. -/
namespace Go.Proofs.Ytaicbllfkehhjaa
open Go.RowKit Go.ChangeShapes Go.WideShapes Go.Deep

section
variable {H : Type} {enc : TypeId × Value → H} {P : Program} {w : World} {base : Nat} {spare : Nat → Bool} {held : Bool}

theorem spot_none {w : World} {a : Addr} {k : Nat} {v : Value} (h : w.cell? (a.add k) = some v) : a.add k = ⟨a.block, a.off + k, none⟩ := by
  have hs := World.cell?_spot h
  obtain ⟨b, o, s⟩ := a
  by_cases h0 : k = 0
  · subst h0
    have : s = none := by simpa [Addr.add] using hs
    subst this
    simp [Addr.add]
  · simp [Addr.add, h0]

theorem slice_len {t e : TypeId} {fuel len cap : Nat} {A : Option Addr} {x : DataW H × List MemPlace} (ht : P.underlying t = some (.slice e)) (h : DataW.trod enc P w base spare held fuel t [.slice A len cap] = some x) :
    len ≤ 9223372036854775807 := by
  rcases open_slice ht h with ⟨h0, _⟩ | ⟨a, len', cap', m, n, D, Pl, hcs, hb, hl, hm, _⟩
  · injection h0 with h0
    injection h0 with _ h1 _
    omega
  · injection hcs with hcs _
    injection hcs with hA hle hca
    subst hA hle hca
    unfold maxLen at hm
    omega

/-- The elements of a slice of structs, cell by cell. -/
theorem slice_structs {t e : TypeId} {fs : Array Field} {fuel len cap : Nat} {A : Option Addr} {x : DataW H × List MemPlace} (ht : P.underlying t = some (.slice e)) (he : P.underlying e = some (.struct fs))
    (hone : oneCellFields P fs = true) (hC : P.cellsOf e = fs.size) (h : DataW.trod enc P w base spare held fuel t [.slice A len cap] = some x) :
    ∀ i, i < len → ∃ (a : Addr) (n : Nat) (vs : List Value), A = some a ∧ vs.length = fs.size ∧ (∀ j v, vs[j]? = some v → w.cell? ⟨a.block, a.off + i * fs.size + j, none⟩ = some v ∧ a.block < w.heap.size) ∧
      (0 < fs.size → a.spot = none) ∧
      ∀ (j : Nat) (f : Field), fs[j]? = some f → ∃ v y, vs[j]? = some v ∧ DataW.trod enc P w base spare held n f.type [v] = some y := by
  intro i hi
  rcases open_slice ht h with ⟨h0, _⟩ | ⟨a, len', cap', m, n, D, Pl, hcs, hb, hl, hm, hmm, hx, hall⟩
  · injection h0 with h0
    injection h0 with _ h1 _
    omega
  · injection hcs with hcs _
    injection hcs with hA hle hca
    subst hA hle hca
    obtain ⟨cs', hc, ht'⟩ := hall i (by rw [hmm]; split <;> omega)
    rw [hC] at hc
    obtain ⟨ys, n', _, _, hlen, hyl, hf⟩ := DataW.trod_struct he ht'
    obtain ⟨_, hcl, hat⟩ := World.cells?_some hc
    have hcell : ∀ j v, cs'[j]? = some v → w.cell? ((a.add (i * fs.size)).add j) = some v := fun j v hv => by
      have hj : j < fs.size := by rw [← hcl]; exact (List.getElem?_eq_some_iff.1 hv).1
      rw [hat j hj, hv]
    refine ⟨a, n', cs', rfl, hcl, fun j v hv => ?_, fun h0 => ?_, fun j f hj => ?_⟩
    · have h1 := hcell j v hv
      rw [Go.Deep.add_add] at h1
      have h2 := spot_none h1
      rw [h2] at h1
      have h3 : a.off + (i * fs.size + j) = a.off + i * fs.size + j := by omega
      rw [h3] at h1
      refine ⟨h1, ?_⟩
      exact World.block_lt_of_cell? w ⟨a.block, a.off + i * fs.size + j, none⟩ h1
    · obtain ⟨cs0, hc0, _⟩ := hall 0 (by rw [hmm]; split <;> omega)
      rw [hC] at hc0
      obtain ⟨_, hcl0, hat0⟩ := World.cells?_some hc0
      have h1 := hat0 0 h0
      rw [List.getElem?_eq_getElem (by omega)] at h1
      rw [Go.Deep.add_add] at h1
      simpa [Addr.add] using World.cell?_spot h1
    · obtain ⟨ho, hk⟩ := hone_of hone j f hj
      have hjl : j < fs.size := (Array.getElem?_eq_some_iff.1 hj).1
      have h1 := hf j f hj
      rw [ho, hk] at h1
      have h2 : (cs'.drop j).take 1 = [cs'[j]'(by omega)] := by
        rw [List.drop_eq_getElem_cons (by omega)]
        rfl
      rw [h2] at h1
      exact ⟨_, ys[j]'(by omega), List.getElem?_eq_getElem (by omega), h1.trans (List.getElem?_eq_getElem (by omega))⟩
end

/-- A list made element by element. -/
theorem list_of {α : Type} {p : Nat → α → Prop} (n : Nat) (h : ∀ i, i < n → ∃ a, p i a) : ∃ l : List α, l.length = n ∧ ∀ i a, l[i]? = some a → p i a := by
  induction n with
  | zero => exact ⟨[], rfl, fun i a hi => by simp at hi⟩
  | succ n ih =>
    obtain ⟨l, hl, hp⟩ := ih (fun i hi => h i (by omega))
    obtain ⟨a, ha⟩ := h n (by omega)
    refine ⟨l ++ [a], by simp [hl], fun i b hi => ?_⟩
    rcases Nat.lt_or_ge i l.length with h1 | h1
    · rw [List.getElem?_append_left h1] at hi
      exact hp i b hi
    · have : i = l.length := by
        have := (List.getElem?_eq_some_iff.1 hi).1
        simp at this
        omega
      subst this
      simp at hi
      subst hi
      rw [hl]
      exact ha
end Go.Proofs.Ytaicbllfkehhjaa

/- Reading clauses, stamps and operations as arguments. -/
namespace Go.Proofs.Ytaicbllfkehhjaa
open Go.RowKit Go.ChangeShapes Go.WideShapes Go.Deep

section
variable {H : Type} {enc : TypeId × Value → H} {P : Program} {w : World} {base : Nat} {spare : Nat → Bool} {held : Bool}
/-- The elements of a slice, each by its cells. -/
theorem slice_elems {t e : TypeId} {fuel len cap k : Nat} {A : Option Addr} {x : DataW H × List MemPlace} (ht : P.underlying t = some (.slice e)) (hC : P.cellsOf e = k) (hk : 0 < k)
    (h : DataW.trod enc P w base spare held fuel t [.slice A len cap] = some x) :
    ∀ i, i < len → ∃ (g off n : Nat) (vs : List Value) (y : DataW H × List MemPlace), A = some ⟨g, off, none⟩ ∧ g < w.heap.size ∧ vs.length = k ∧ (∀ j v, vs[j]? = some v → w.cell? ⟨g, off + i * k + j, none⟩ = some v) ∧ DataW.trod enc P w base spare held n e vs = some y := by
  intro i hi
  rcases open_slice ht h with ⟨h0, _⟩ | ⟨a, len', cap', m, n, D, Pl, hcs, hb, hl, hm, hmm, hx, hall⟩
  · injection h0 with h0
    injection h0 with _ h1 _
    omega
  · injection hcs with hcs _
    injection hcs with hA hle hca
    subst hA hle hca
    rw [hC] at hall
    obtain ⟨g, off, spot⟩ := a
    have hspot : spot = none := by
      obtain ⟨cs0, hc0, _⟩ := hall 0 (by rw [hmm]; split <;> omega)
      obtain ⟨_, hcl0, hat0⟩ := World.cells?_some hc0
      have h1 := hat0 0 hk
      rw [List.getElem?_eq_getElem (by omega), Go.Deep.add_add] at h1
      simpa [Addr.add] using World.cell?_spot h1
    subst hspot
    obtain ⟨cs', hc, ht'⟩ := hall i (by rw [hmm]; split <;> omega)
    obtain ⟨_, hcl, hat⟩ := World.cells?_some hc
    have hcell : ∀ j v, cs'[j]? = some v → w.cell? ⟨g, off + i * k + j, none⟩ = some v := fun j v hv => by
      have hj : j < k := by rw [← hcl]; exact (List.getElem?_eq_some_iff.1 hv).1
      have h1 := hat j hj
      rw [hv, Go.Deep.add_add] at h1
      have h2 := spot_none h1
      rw [h2] at h1
      have h3 : off + (i * k + j) = off + i * k + j := by omega
      rw [h3] at h1
      exact h1
    have hlt : g < w.heap.size := by
      have h1 := hcell 0 (cs'[0]'(by omega)) (List.getElem?_eq_getElem (by omega))
      exact World.block_lt_of_cell? w ⟨g, off + i * k + 0, none⟩ h1
    exact ⟨g, off, n, cs', _, rfl, hlt, hcl, hcell, ht'⟩
end
section
variable {H : Type} {enc : TypeId × Value → H} {w : World} {base : Nat} {spare : Nat → Bool} {held : Bool}
set_option maxRecDepth 100000 in
theorem st_of_trod {fuel : Nat} {a b : Value} {x : DataW H × List MemPlace} (hf : DataW.trod enc Try.prog w base spare held fuel 33 [a, b] = some x) : ∃ s : St2, a = .int .i64 s.1 ∧ b = .int .i64 s.2 := by
  obtain ⟨xs, n, _, _, _, hlen, hfl⟩ := DataW.trod_struct Try.underlying33 hf
  have g : ∀ i, i < xs.length → ∃ y, xs[i]? = some y := fun i hi => ⟨_, List.getElem?_eq_getElem hi⟩
  have hl : xs.length = 2 := hlen
  obtain ⟨y0, e0⟩ := g 0 (by omega)
  obtain ⟨y1, e1⟩ := g 1 (by omega)
  obtain ⟨k0, h0, _, _⟩ := DataW.trod_int Try.underlying3 ((hfl 0 _ rfl).trans e0)
  obtain ⟨k1, h1, _, _⟩ := DataW.trod_int Try.underlying3 ((hfl 1 _ rfl).trans e1)
  exact ⟨(k0, k1), by injection h0, by injection h1⟩
set_option maxRecDepth 100000 in
theorem it_of_trod {fuel : Nat} {c0 c1 c2 c3 c4 c5 c6 : Value} {x : DataW H × List MemPlace} (hf : DataW.trod enc Try.prog w base spare held fuel 35 [c0, c1, c2, c3, c4, c5, c6] = some x) :
    ∃ s : Itm, c0 = .int .i64 s.1 ∧ c1 = .string s.2.1 ∧ c2 = .string s.2.2.1 ∧ c3 = .string s.2.2.2.1 ∧ c4 = .string s.2.2.2.2.1 ∧ c5 = .string s.2.2.2.2.2.1 ∧ c6 = .bool s.2.2.2.2.2.2 := by
  obtain ⟨xs, n, _, _, _, hlen, hfl⟩ := DataW.trod_struct Try.underlying35 hf
  have g : ∀ i, i < xs.length → ∃ y, xs[i]? = some y := fun i hi => ⟨_, List.getElem?_eq_getElem hi⟩
  have hl : xs.length = 7 := hlen
  obtain ⟨y0, e0⟩ := g 0 (by omega)
  obtain ⟨y1, e1⟩ := g 1 (by omega)
  obtain ⟨y2, e2⟩ := g 2 (by omega)
  obtain ⟨y3, e3⟩ := g 3 (by omega)
  obtain ⟨y4, e4⟩ := g 4 (by omega)
  obtain ⟨y5, e5⟩ := g 5 (by omega)
  obtain ⟨y6, e6⟩ := g 6 (by omega)
  obtain ⟨k0, h0, _, _⟩ := DataW.trod_int Try.underlying3 ((hfl 0 _ rfl).trans e0)
  obtain ⟨k1, h1, _, _⟩ := DataW.trod_string Try.underlying9 ((hfl 1 _ rfl).trans e1)
  obtain ⟨k2, h2, _, _⟩ := DataW.trod_string Try.underlying9 ((hfl 2 _ rfl).trans e2)
  obtain ⟨k3, h3, _, _⟩ := DataW.trod_string Try.underlying9 ((hfl 3 _ rfl).trans e3)
  obtain ⟨k4, h4, _, _⟩ := DataW.trod_string Try.underlying9 ((hfl 4 _ rfl).trans e4)
  obtain ⟨k5, h5, _, _⟩ := DataW.trod_string Try.underlying9 ((hfl 5 _ rfl).trans e5)
  obtain ⟨k6, h6, _⟩ := DataW.trod_bool Try.underlying4 ((hfl 6 _ rfl).trans e6)
  exact ⟨(k0, k1, k2, k3, k4, k5, k6), by injection h0, by injection h1, by injection h2, by injection h3, by injection h4, by injection h5, by injection h6⟩
set_option maxRecDepth 100000 in
theorem pt_of_trod {fuel : Nat} {c0 c1 c2 c3 c4 c5 c6 c7 c8 c9 ca cb cc cd ce : Value} {x : DataW H × List MemPlace} (hf : DataW.trod enc Try.prog w base spare held fuel 37 [c0, c1, c2, c3, c4, c5, c6, c7, c8, c9, ca, cb, cc, cd, ce] = some x) :
    ∃ p : Pt, [c0, c1, c2, c3, c4, c5, c6, c7, c8, c9, ca, cb, cc, cd, ce] = encP p := by
  obtain ⟨xs, n, _, _, _, hlen, hfl⟩ := DataW.trod_struct Try.underlying37 hf
  have g : ∀ i, i < xs.length → ∃ y, xs[i]? = some y := fun i hi => ⟨_, List.getElem?_eq_getElem hi⟩
  have hl : xs.length = 9 := hlen
  obtain ⟨y0, e0⟩ := g 0 (by omega)
  obtain ⟨y1, e1⟩ := g 1 (by omega)
  obtain ⟨y2, e2⟩ := g 2 (by omega)
  obtain ⟨y3, e3⟩ := g 3 (by omega)
  obtain ⟨y4, e4⟩ := g 4 (by omega)
  obtain ⟨y5, e5⟩ := g 5 (by omega)
  obtain ⟨y6, e6⟩ := g 6 (by omega)
  obtain ⟨y7, e7⟩ := g 7 (by omega)
  obtain ⟨y8, e8⟩ := g 8 (by omega)
  obtain ⟨k0, h0, _, _⟩ := DataW.trod_int Try.underlying3 ((hfl 0 _ rfl).trans e0)
  obtain ⟨k1, h1, _, _⟩ := DataW.trod_string Try.underlying9 ((hfl 1 _ rfl).trans e1)
  obtain ⟨k2, h2, _, _⟩ := DataW.trod_string Try.underlying9 ((hfl 2 _ rfl).trans e2)
  obtain ⟨k3, h3, _, _⟩ := DataW.trod_string Try.underlying9 ((hfl 3 _ rfl).trans e3)
  obtain ⟨k4, h4, _, _⟩ := DataW.trod_string Try.underlying9 ((hfl 4 _ rfl).trans e4)
  obtain ⟨it, i0, i1, i2, i3, i4, i5, i6⟩ := it_of_trod (show DataW.trod enc Try.prog w base spare held n 35 [c5, c6, c7, c8, c9, ca, cb] = some y5 from (hfl 5 _ rfl).trans e5)
  obtain ⟨k6, h6, _, _⟩ := DataW.trod_int Try.underlying3 ((hfl 6 _ rfl).trans e6)
  obtain ⟨k7, h7, _, _⟩ := DataW.trod_string Try.underlying9 ((hfl 7 _ rfl).trans e7)
  obtain ⟨k8, h8, _, _⟩ := DataW.trod_string Try.underlying9 ((hfl 8 _ rfl).trans e8)
  have q0 : c0 = .int .i64 k0 := by injection h0
  have q1 : c1 = .string k1 := by injection h1
  have q2 : c2 = .string k2 := by injection h2
  have q3 : c3 = .string k3 := by injection h3
  have q4 : c4 = .string k4 := by injection h4
  have q6 : cc = .int .i64 k6 := by injection h6
  have q7 : cd = .string k7 := by injection h7
  have q8 : ce = .string k8 := by injection h8
  subst q0 q1 q2 q3 q4 q6 q7 q8 i0 i1 i2 i3 i4 i5 i6
  exact ⟨(k0, k1, k2, k3, k4, it, k6, k7, k8), rfl⟩
set_option maxRecDepth 100000 in
theorem twenty {cs : List Value} (h : cs.length = 20) : ∃ c0 c1 c2 c3 p0 p1 p2 p3 p4 p5 p6 p7 p8 p9 pa pb pc pd pe g, cs = [c0, c1, c2, c3, p0, p1, p2, p3, p4, p5, p6, p7, p8, p9, pa, pb, pc, pd, pe, g] := by
  match cs, h with
  | [c0, c1, c2, c3, p0, p1, p2, p3, p4, p5, p6, p7, p8, p9, pa, pb, pc, pd, pe, g], _ => exact ⟨c0, c1, c2, c3, p0, p1, p2, p3, p4, p5, p6, p7, p8, p9, pa, pb, pc, pd, pe, g, rfl⟩
set_option maxRecDepth 100000 in
theorem cl_of_trod {fuel : Nat} {cs : List Value} (hcl : cs.length = 20) {x : DataW H × List MemPlace} (hf : DataW.trod enc Try.prog w base spare held fuel 56 cs = some x) : ∃ c : Cl, cs = encC c := by
  obtain ⟨c0, c1, c2, c3, p0, p1, p2, p3, p4, p5, p6, p7, p8, p9, pa, pb, pc, pd, pe, gv, rfl⟩ := twenty hcl
  obtain ⟨xs, n, _, _, _, hlen, hfl⟩ := DataW.trod_struct Try.underlying56 hf
  have g : ∀ i, i < xs.length → ∃ y, xs[i]? = some y := fun i hi => ⟨_, List.getElem?_eq_getElem hi⟩
  have hl : xs.length = 4 := hlen
  obtain ⟨y0, e0⟩ := g 0 (by omega)
  obtain ⟨y1, e1⟩ := g 1 (by omega)
  obtain ⟨y2, e2⟩ := g 2 (by omega)
  obtain ⟨y3, e3⟩ := g 3 (by omega)
  obtain ⟨s0, i0, i1⟩ := st_of_trod (show DataW.trod enc Try.prog w base spare held n 33 [c0, c1] = some y0 from (hfl 0 _ rfl).trans e0)
  obtain ⟨s1, i2, i3⟩ := st_of_trod (show DataW.trod enc Try.prog w base spare held n 33 [c2, c3] = some y1 from (hfl 1 _ rfl).trans e1)
  obtain ⟨p, hp⟩ := pt_of_trod (show DataW.trod enc Try.prog w base spare held n 37 [p0, p1, p2, p3, p4, p5, p6, p7, p8, p9, pa, pb, pc, pd, pe] = some y2 from (hfl 2 _ rfl).trans e2)
  obtain ⟨k, h3, _⟩ := DataW.trod_bool Try.underlying4 ((hfl 3 _ rfl).trans e3)
  have q3 : gv = .bool k := by injection h3
  subst i0 i1 i2 i3 q3
  refine ⟨⟨s0, s1, p, k⟩, ?_⟩
  show [_, _, _, _] ++ ([p0, p1, p2, p3, p4, p5, p6, p7, p8, p9, pa, pb, pc, pd, pe] ++ [_]) = _
  rw [hp]
  rfl
set_option maxRecDepth 100000 in
theorem cls_of_trod {fuel len cap : Nat} {A : Option Addr} {x : DataW H × List MemPlace} (hf : DataW.trod enc Try.prog w base spare held fuel 41 [.slice A len cap] = some x) :
    ∃ l : List Cl, l.length = len ∧ ClsAt w w.heap.size A l ∧ len ≤ 9223372036854775807 := by
  have hlen := slice_len Try.underlying41 hf
  have hs := slice_elems (k := 20) Try.underlying41 (by kernel_rfl) (by decide) hf
  obtain ⟨S, hl, hp⟩ := list_of (p := fun i (c : Cl) => ∃ g off, A = some ⟨g, off, none⟩ ∧ g < w.heap.size ∧ ∀ (k : Nat) (v : Value), (encC c)[k]? = some v → w.cell? ⟨g, off + i * 20 + k, none⟩ = some v) len (fun i hi => by
    obtain ⟨g, off, n, vs, y, h1, h2, h3, h4, h5⟩ := hs i hi
    obtain ⟨c, rfl⟩ := cl_of_trod h3 h5
    exact ⟨c, g, off, h1, h2, h4⟩)
  exact ⟨S, hl, hp, hlen⟩
set_option maxRecDepth 100000 in
theorem cls_at {len cap : Nat} {A : Option Addr} {d : DataW H} {p : List MemPlace} (h : DataW.Trod enc Try.prog w base spare held 41 (.slice A len cap) d p) :
    ∃ l : List Cl, l.length = len ∧ ClsAt w w.heap.size A l := by
  obtain ⟨fuel, hf⟩ := h
  obtain ⟨l, h1, h2, _⟩ := cls_of_trod (show DataW.trod enc Try.prog w base spare held fuel 41 [.slice A len cap] = some _ from hf)
  exact ⟨l, h1, h2⟩
set_option maxRecDepth 100000 in
theorem clause_at {v : Value} {d : DataW H} {p : List MemPlace} {cs : Array Value} (hv : v = .agg cs) (hsz : cs.size = Try.prog.cellsOf 56)
    (h : DataW.Trod enc Try.prog w base spare held 56 v d p) : ∃ c : Cl, v = .agg (clA c) := by
  subst hv
  have h2 : Try.prog.cellsOf 56 = 20 := by kernel_rfl
  rw [h2] at hsz
  obtain ⟨fuel, hf⟩ := h
  have hc : (Value.agg cs).cells.toList = cs.toList := rfl
  rw [hc] at hf
  obtain ⟨c, h3⟩ := cl_of_trod (by simpa using hsz) hf
  exact ⟨c, by congr 1; exact Array.toList_inj.1 h3⟩
set_option maxRecDepth 100000 in
theorem stamp_at {v : Value} {d : DataW H} {p : List MemPlace} {cs : Array Value} (hv : v = .agg cs) (hsz : cs.size = Try.prog.cellsOf 33)
    (h : DataW.Trod enc Try.prog w base spare held 33 v d p) : ∃ s : St2, v = .agg (stA s) := by
  subst hv
  have h2 : Try.prog.cellsOf 33 = 2 := by kernel_rfl
  rw [h2] at hsz
  obtain ⟨fuel, hf⟩ := h
  have hc : (Value.agg cs).cells.toList = cs.toList := rfl
  rw [hc] at hf
  obtain ⟨⟨a, b⟩, hcs⟩ : ∃ q : Value × Value, cs = #[q.1, q.2] := by
    obtain ⟨l⟩ := cs
    match l, hsz with
    | [c0, c1], _ => exact ⟨(c0, c1), rfl⟩
  subst hcs
  obtain ⟨s, h3, h4⟩ := st_of_trod hf
  simp only at h3 h4
  subst h3 h4
  exact ⟨s, rfl⟩

end
end Go.Proofs.Ytaicbllfkehhjaa

/- A region that draws its order, walked in stages: reads whose values hang on no world; reads that hold as long as S does, with calls that keep S behind them; operations that come up one at a time. Over any program. -/
namespace Go.Proofs.Ytaicbllfkehhjaa
open Go.RowKit

inductive Stg where
  /-- reads whose values hang on no world -/
  | free (hs : List Nat)
  /-- reads that hold as long as S does; then operations, one at a time, behind each of which S holds; all others wait for all the reads -/
  | hold (S : World → Prop) (hs es : List Nat)
  /-- one at a time -/
  | run (ts : List Nat)

section
variable {P : Program} {Q : Exit → Act → World → Prop}

def onesB (ops : Array Oper) : List Nat → Array Bool → Option (Array Bool)
  | [], listed => some listed
  | t :: ts, listed => if Region.ready .any ops listed = [t] then onesB ops ts (listed.setIfInBounds t true) else none
def leftOver (n : Nat) (listed : Array Bool) (hs es : List Nat) : List Nat := (List.range n).filter fun j => !listed.getD j false && !hs.contains j && !es.contains j
def stgB (l : List Oper) : List Stg → Array Bool → Bool
  | [], listed => (Region.ready .any l.toArray listed).isEmpty
  | .free hs :: r, listed => match headB .any l.toArray hs listed with
    | none => false
    | some l2 => stgB l r l2
  | .hold _ hs es :: r, listed => match headB .any l.toArray hs listed with
    | none => false
    | some l2 => waitB .any l.toArray (leftOver l.length listed hs es) hs && match onesB l.toArray es l2 with
      | none => false
      | some l3 => stgB l r l3
  | .run ts :: r, listed => match onesB l.toArray ts listed with
    | none => false
    | some l2 => stgB l r l2
def cnt : List Stg → Nat
  | [] => 0
  | .free hs :: r => hs.length + cnt r
  | .hold _ hs es :: r => hs.length + (es.length + cnt r)
  | .run ts :: r => ts.length + cnt r
def wpRun (P : Program) (l : List Oper) (Q : Exit → Act → World → Prop) (K : Act → World → Prop) (ts : List Nat) (a : Act) (w : World) : Prop := wpList P l.toArray (Exit.then K Q) (pick l ts) a w
def wpStg (P : Program) (l : List Oper) (Q : Exit → Act → World → Prop) : List Stg → Act → World → Prop
  | [], a, w => Q .normal a w
  | .free hs :: r, a, w => wpHeld P l.toArray (fun _ => True) (fun a' => wpStg P l Q r a' w) (pick l hs) a
  | .hold S hs es :: r, a, w => S w ∧ wpHeld P l.toArray S (fun a' => wpEarly P l.toArray S Q (fun a w => wpStg P l Q r a w) (pick l es) a' w) (pick l hs) a
  | .run ts :: r, a, w => wpRun P l Q (fun a' w' => wpStg P l Q r a' w') ts a w

theorem wpOp_of_cons {ops : Array Oper} {w : World} {i : Nat} {o : Oper} {rest : List Oper} {K : Act → World → Prop} {a : Act} (hi : ops[i]? = some o) (h : wpList P ops (Exit.then K Q) (o :: rest) a w) : wpOp P ops Q i (fun a' w' => wpList P ops (Exit.then K Q) rest a' w') a w := by
  unfold wpOp
  simp only [hi]
  unfold wpList at h
  split
  · rename_i hw
    rw [if_pos hw] at h
    rcases h with h | ⟨h1, a0, w0, h2⟩
    · left
      unfold Oper.wp at *
      generalize (execOp a.eval o).run P w = r at *
      cases r with
      | ok n w' =>
        cases n <;> simp only [Oper.upon] at h ⊢ <;>
          first
            | exact h
            | exact Calls.mono h (fun e w'' he => by cases e <;> first | exact he | (obtain ⟨a1, w1, h1⟩ := he; exact ⟨a1, w1, h1⟩))
            | exact Rows.mono h (fun _ _ he => he)
      | halt x w' => cases x <;> simp only [Oper.upon] at h ⊢ <;> exact h
    · exact .inr ⟨h1, a0, w0, h2⟩
  · rename_i hw
    rw [if_neg hw] at h
    exact h

theorem onesB_closed {l : List Oper} : ∀ (ts : List Nat) (listed l2 : Array Bool), Closed .any l.toArray listed → onesB l.toArray ts listed = some l2 → Closed .any l.toArray l2
  | [], _, _, hc, h => by simp only [onesB, Option.some.injEq] at h; subst h; exact hc
  | t :: ts, listed, l2, hc, h => by
    unfold onesB at h
    split at h
    · rename_i hr
      exact onesB_closed ts _ _ (hc.set (by rw [hr]; simp)) h
    · cases h
theorem wpAny_ones {l : List Oper} {K : Act → World → Prop} {g : Nat} {l2 : Array Bool} (hK : ∀ a w, K a w → wpAny P .any l.toArray Q g l2 a w) : ∀ (ts : List Nat) (listed : Array Bool) (a : Act) (w : World), onesB l.toArray ts listed = some l2 →
    wpList P l.toArray (Exit.then K Q) (pick l ts) a w → wpAny P .any l.toArray Q (ts.length + g) listed a w
  | [], listed, a, w, h, hw => by
    simp only [onesB, Option.some.injEq] at h
    subst h
    rw [List.length_nil, Nat.zero_add]
    exact hK a w hw
  | t :: ts, listed, a, w, h, hw => by
    unfold onesB at h
    split at h
    · rename_i hr
      have hr' : t ∈ Region.ready .any l.toArray listed := by rw [hr]; simp
      obtain ⟨_, o, h0, _⟩ := mem_ready.1 hr'
      have hp : pick l (t :: ts) = o :: pick l ts := by
        have : l[t]? = some o := by simpa using h0
        simp [pick, this]
      rw [hp] at hw
      rw [show (t :: ts).length + g = (ts.length + g) + 1 by simp; omega]
      refine ⟨fun h1 => (by rw [hr] at h1; cases h1), fun i hi => ?_⟩
      rw [hr] at hi
      obtain rfl : i = t := by simpa using hi
      exact wpOp_mono (fun a' w' h' => wpAny_ones hK ts _ a' w' h h') (wpOp_of_cons h0 hw)
    · cases h
theorem wpAnyE_ones {l : List Oper} {S : World → Prop} {late : Nat → Bool} {K : Act → World → Prop} {g : Nat} {l2 : Array Bool} (hK : ∀ a w, K a w → wpAnyE P .any l.toArray Q S late g l2 a w) : ∀ (es : List Nat) (listed : Array Bool) (a : Act) (w : World), onesB l.toArray es listed = some l2 →
    wpEarly P l.toArray S Q K (pick l es) a w → wpAnyE P .any l.toArray Q S late (es.length + g) listed a w
  | [], listed, a, w, h, hw => by
    simp only [onesB, Option.some.injEq] at h
    subst h
    rw [List.length_nil, Nat.zero_add]
    exact hK a w hw
  | t :: ts, listed, a, w, h, hw => by
    unfold onesB at h
    split at h
    · rename_i hr
      have hr' : t ∈ Region.ready .any l.toArray listed := by rw [hr]; simp
      obtain ⟨_, o, h0, _⟩ := mem_ready.1 hr'
      have hp : pick l (t :: ts) = o :: pick l ts := by
        have : l[t]? = some o := by simpa using h0
        simp [pick, this]
      rw [hp] at hw
      rw [show (t :: ts).length + g = (ts.length + g) + 1 by simp; omega]
      refine ⟨fun h1 => (by rw [hr] at h1; cases h1), fun i hi => ?_⟩
      rw [hr] at hi
      obtain rfl : i = t := by simpa using hi
      exact wpOp_mono (fun a' w' h' => ⟨fun _ => h'.1, wpAnyE_ones hK ts _ a' w' h h'.2⟩) (wpOp_of_one h0 hw)
    · cases h
theorem onesB_set {ops : Array Oper} : ∀ (ts : List Nat) (listed l2 : Array Bool), onesB ops ts listed = some l2 → setAll ts listed = l2
  | [], _, _, h => by simp only [onesB, Option.some.injEq] at h; exact h
  | t :: ts, listed, l2, h => by
    unfold onesB at h
    split at h
    · exact onesB_set ts _ _ h
    · cases h
theorem setAll_of {j : Nat} : ∀ (ts : List Nat) (listed : Array Bool), j < listed.size → (setAll ts listed).getD j false = false → listed.getD j false = false ∧ j ∉ ts
  | [], _, _, h => ⟨h, by simp⟩
  | t :: ts, listed, hj, h => by
    have h' : (setAll ts (listed.setIfInBounds t true)).getD j false = false := h
    obtain ⟨h1, h2⟩ := setAll_of ts (listed.setIfInBounds t true) (by simpa using hj) h'
    by_cases htj : t = j
    · subst htj
      simp [Array.getD, hj] at h1
    · rw [getD_set_ne false htj] at h1
      exact ⟨h1, by simp [h2, Ne.symm htj]⟩
theorem size_setAll : ∀ (ts : List Nat) (listed : Array Bool), (setAll ts listed).size = listed.size
  | [], _ => rfl
  | t :: ts, listed => by
    show (setAll ts (listed.setIfInBounds t true)).size = _
    rw [size_setAll ts, Array.size_setIfInBounds]
theorem wpAny_stg {l : List Oper} (hsel : Region.noSelect l.toArray = true) (hQ : ∀ c (d : Option Tmp) (v : Value) a w, Q (.panic c) (a.put d v) w → Q (.panic c) a w) :
    ∀ (st : List Stg) (listed : Array Bool) (a : Act) (w : World), stgB l st listed = true → Closed .any l.toArray listed → listed.size = l.length → wpStg P l Q st a w → wpAny P .any l.toArray Q (cnt st) listed a w
  | [], listed, a, w, hB, _, _, h => ⟨by simpa [stgB] using hB, h⟩
  | .free hs :: r, listed, a, w, hB, hc, hz, h => by
    unfold stgB at hB
    cases h2 : headB .any l.toArray hs listed with
    | none => rw [h2] at hB; cases hB
    | some l2 =>
      rw [h2] at hB
      have hz2 : l2.size = l.length := by rw [← headB_set _ _ _ h2, size_setAll]; exact hz
      exact wpAny_of_E _ _ _ _ (wpAnyE_held (P := P) (Q := Q) (md := .any) (w := w) (S := fun _ => True) (late := fun _ => false) (hs := hs) (g := cnt r) hsel hQ (fun _ _ _ h => by cases h) (fun _ _ => rfl) trivial
        (fun a' ha' => wpAnyE_any (fun _ => trivial) _ _ _ _ (wpAny_stg hsel hQ r l2 a' w hB (headB_closed _ _ _ hc h2) hz2 ha')) hs listed a (fun k hk => hk) hc h2 h)
  | .hold S hs es :: r, listed, a, w, hB, hc, hz, h => by
    unfold stgB at hB
    cases h2 : headB .any l.toArray hs listed with
    | none => rw [h2] at hB; cases hB
    | some l2 =>
      rw [h2] at hB
      simp only [Bool.and_eq_true] at hB
      obtain ⟨hw, hB⟩ := hB
      cases h3 : onesB l.toArray es l2 with
      | none => rw [h3] at hB; cases hB
      | some l3 =>
        rw [h3] at hB
        simp only at hB
        have hc2 := headB_closed _ _ _ hc h2
        have hs2 := headB_set _ _ _ h2
        have hs3 := onesB_set _ _ _ h3
        have hz2 : l2.size = l.length := by rw [← hs2, size_setAll]; exact hz
        have hz3 : l3.size = l.length := by rw [← hs3, size_setAll]; exact hz2
        refine wpAny_of_E _ _ _ _ (wpAnyE_held (P := P) (Q := Q) (md := .any) (w := w) (S := S) (late := fun j => (leftOver l.length listed hs es).contains j) (hs := hs) (g := es.length + cnt r) hsel hQ
          (fun j i hi hj => List.all_eq_true.1 (List.all_eq_true.1 hw j (List.contains_iff_mem.1 hj)) i hi) (fun i hi => ?_) h.1
          (fun a' ha' => wpAnyE_ones (fun a2 w2 h2 => wpAnyE_late _ _ _ _ (fun j hj hjl => ?_) (wpAny_stg hsel hQ r l3 a2 w2 hB (onesB_closed _ _ _ hc2 h3) hz3 h2)) es l2 a' w h3 ha') hs listed a (fun k hk => hk) hc h2 h.2)
        · cases hq : (leftOver l.length listed hs es).contains i with
          | false => rfl
          | true =>
            have := List.mem_filter.1 (List.contains_iff_mem.1 hq)
            simp [hi] at this
        · have hjl2 : j < l.length := by simpa using hj
          rw [← hs3] at hjl
          obtain ⟨g1, g2⟩ := setAll_of es l2 (by omega) hjl
          rw [← hs2] at g1
          obtain ⟨g3, g4⟩ := setAll_of hs listed (by omega) g1
          refine List.contains_iff_mem.2 (List.mem_filter.2 ⟨List.mem_range.2 hjl2, ?_⟩)
          simp [g2, g4]
          simpa using g3
  | .run ts :: r, listed, a, w, hB, hc, hz, h => by
    unfold stgB at hB
    cases h2 : onesB l.toArray ts listed with
    | none => rw [h2] at hB; cases hB
    | some l2 =>
      rw [h2] at hB
      have hz2 : l2.size = l.length := by rw [← onesB_set _ _ _ h2, size_setAll]; exact hz
      exact wpAny_ones (fun a' w' h' => wpAny_stg hsel hQ r l2 a' w' hB (onesB_closed _ _ _ hc h2) hz2 h') ts listed a w h2 h

/-- A REGION THAT DRAWS ITS ORDER, IN STAGES. -/
theorem wp_region_stages {id : Nat} {l : List Oper} {a : Act} {w : World} (st : List Stg) (hm : P.follows .mixedOrders = true) (hB : (Region.noSelect l.toArray && decide (cnt st = l.length) && stgB l st (Array.replicate l.length false)) = true)
    (hQ : ∀ c (d : Option Tmp) (v : Value) a w, Q (.panic c) (a.put d v) w → Q (.panic c) a w) (h : wpStg P l Q st a w.drew) : (Code.region id l.toArray true).wp P Q a w := by
  simp only [Bool.and_eq_true, decide_eq_true_eq] at hB
  obtain ⟨⟨hsel, hlen⟩, hst⟩ := hB
  have hc0 : Closed .any l.toArray (Array.replicate l.length false) := fun j oj _ hl => by rw [getD_replicate_false] at hl; cases hl
  refine wp_region_any hm ?_
  have k := wpAny_stg (P := P) (Q := Q) hsel hQ st _ a w.drew hst hc0 (by simp) h
  rw [hlen] at k
  have hsz : l.toArray.size = l.length := by simp
  rw [hsz]
  exact k
theorem wpHeld_want {ops : Array Oper} {S : World → Prop} {K : Act → Prop} {a : Act} {o : Oper} {rest : List Oper} (v : Value) (hw : Region.wanted o (yielded ops a.tmps) = true) (h : ∀ w, S w → (execOp a.eval o).run P w = .ok (.value v) w) (hK : wpHeld P ops S K rest (a.put o.dst v)) :
    wpHeld P ops S K (o :: rest) a := ⟨v, .inl ⟨hw, h⟩, hK⟩
theorem wpHeld_skip {ops : Array Oper} {S : World → Prop} {K : Act → Prop} {a : Act} {o : Oper} {rest : List Oper} (hw : Region.wanted o (yielded ops a.tmps) = false) (hK : wpHeld P ops S K rest (a.put o.dst undef)) :
    wpHeld P ops S K (o :: rest) a := ⟨undef, .inr ⟨hw, rfl⟩, hK⟩
end
end Go.Proofs.Ytaicbllfkehhjaa

/- A great region that draws its order, walked in stages one at a time, each with its own small check. Over any program. -/
namespace Go.Proofs.Ytaicbllfkehhjaa
open Go.RowKit

section
variable {P : Program} {ops : Array Oper} {md : Region.Mode} {Q : Exit → Act → World → Prop}

/-- Operation j waits for operation i. -/
def Waits (md : Region.Mode) (ops : Array Oper) (i j : Nat) : Prop := ∀ listed : Array Bool, Closed md ops listed → listed.getD i false = false → listed.getD j false = false ∧ j ∉ Region.ready md ops listed
/-- A table of operations that wait for g: each waits for g itself or for an earlier one of the table. -/
def markB (md : Region.Mode) (ops : Array Oper) (g : Nat) (marks : List Nat) : Bool := marks.all fun t => match ops[t]? with
  | some o => o.after.any fun e => Region.binds md e && decide (e.on < t) && (e.on == g || marks.contains e.on)
  | none => false
theorem mark_waits {g : Nat} {marks : List Nat} (h : markB md ops g marks = true) : ∀ (n t : Nat), t < n → t ∈ marks → Waits md ops g t
  | 0, _, h0, _ => by omega
  | n + 1, t, h0, ht => by
    intro listed hc hg
    have h1 := List.all_eq_true.1 h t ht
    cases ho : ops[t]? with
    | none => rw [ho] at h1; cases h1
    | some o =>
      rw [ho] at h1
      obtain ⟨e, he, hb⟩ := Array.any_eq_true'.1 h1
      simp only [Bool.and_eq_true, Bool.or_eq_true, beq_iff_eq, decide_eq_true_eq] at hb
      have hon : listed.getD e.on false = false := by
        rcases hb.2 with h2 | h2
        · rw [h2]; exact hg
        · exact (mark_waits h n e.on (by omega) (List.contains_iff_mem.1 h2) listed hc hg).1
      refine ⟨?_, fun hr => ?_⟩
      · cases hl : listed.getD t false with
        | false => rfl
        | true => rw [hc t o ho hl e he hb.1.1] at hon; cases hon
      · obtain ⟨_, o', ho', hall⟩ := mem_ready.1 hr
        have : o' = o := Option.some.inj (ho'.symm.trans ho)
        subst this
        rw [hall e he hb.1.1] at hon
        cases hon

theorem wpAnyE_firstW {S : World → Prop} {late : Nat → Bool} {i : Nat} {oi : Oper} {v : Value} (hi : ops[i]? = some oi) (hsel : ∀ (j : Nat) (o : Oper) cs b, ops[j]? = some o → o.op ≠ .select cs b)
    (hQ : ∀ c a w, Q (.panic c) (a.put oi.dst v) w → Q (.panic c) a w) (hlate : ∀ j, late j = true → Waits md ops i j) (hli : late i = false) :
    ∀ (fuel : Nat) (listed : Array Bool) (a : Act) (w : World), Closed md ops listed →
      (∀ j oj, ops[j]? = some oj → j ≠ i → listed.getD j true = false → (∀ e ∈ oj.after, Region.binds md e = true → e.on ≠ i) → oi.apart ops oj = true) →
      i ∈ Region.ready md ops listed → YieldsIf P ops S oi v a → S w →
      wpAnyE P md ops Q S late fuel (listed.setIfInBounds i true) (a.put oi.dst v) w → wpAnyE P md ops Q S late (fuel + 1) listed a w := by
  intro fuel
  induction fuel with
  | zero =>
    intro listed a w hc _ hr hy hS H
    refine ⟨fun h => (by rw [h] at hr; cases hr), fun j hj => ?_⟩
    by_cases hji : j = i
    · subst hji; exact hy.wpOp hi hS ⟨fun _ => hS, H⟩
    · have := ready_mono hj hji
      rw [H.1] at this
      cases this
  | succ fuel ih =>
    intro listed a w hc hfree hr hy hS H
    refine ⟨fun h => (by rw [h] at hr; cases hr), fun j hj => ?_⟩
    by_cases hji : j = i
    · subst hji; exact hy.wpOp hi hS ⟨fun _ => hS, H⟩
    · have h1 := H.2 j (ready_mono hj hji)
      have hun := (mem_ready.1 hr).1
      have hlj : late j = false := by
        cases hl : late j with
        | false => rfl
        | true => exact absurd hj (hlate j hl listed hc (getD_both hun)).2
      obtain ⟨hjun, oj, hoj, hall⟩ := mem_ready.1 hj
      have hnot : ∀ e ∈ oj.after, Region.binds md e = true → e.on ≠ i := fun e he hb heq => by
        have h1 := hall e he hb
        rw [heq, getD_both hun] at h1
        cases h1
      have h2 := wpOp_putIf hoj (hfree j oj hoj hji hjun hnot) (fun cs b => hsel i oi cs b hi) (fun cs b => hsel j oj cs b hoj) hQ hy h1
      have hfree' : ∀ k ok, ops[k]? = some ok → k ≠ i → (listed.setIfInBounds j true).getD k true = false →
          (∀ e ∈ ok.after, Region.binds md e = true → e.on ≠ i) → oi.apart ops ok = true := fun k ok hk hki hun hno => by
        refine hfree k ok hk hki ?_ hno
        by_cases hjk : j = k
        · subst hjk; exact hjun
        · rw [getD_set_ne true hjk] at hun; exact hun
      refine wpOp_mono (fun a' w' h3 => ⟨fun _ => h3.2.1 hlj, ih (listed.setIfInBounds j true) a' w' (hc.set hj) hfree' (ready_mono hr (Ne.symm hji)) h3.1 (h3.2.1 hlj) ?_⟩) h2
      rw [Array.setIfInBounds_comm _ _ hji]
      exact h3.2.2
theorem wpAnyE_heldW {w : World} {l : List Oper} {S : World → Prop} {late : Nat → Bool} {K : Act → Prop} {hs : List Nat} {listed2 : Array Bool} {g : Nat} (hsel : Region.noSelect l.toArray = true) (hQ : ∀ c (d : Option Tmp) (v : Value) a w, Q (.panic c) (a.put d v) w → Q (.panic c) a w)
    (hlate : ∀ j i, i ∈ hs → late j = true → Waits md l.toArray i j) (hln : ∀ i ∈ hs, late i = false) (hS : S w)
    (hK : ∀ a, K a → wpAnyE P md l.toArray Q S late g listed2 a w) :
    ∀ (ks : List Nat) (listed : Array Bool) (a : Act), (∀ k ∈ ks, k ∈ hs) → Closed md l.toArray listed → headB md l.toArray ks listed = some listed2 →
    wpHeld P l.toArray S K (pick l ks) a → wpAnyE P md l.toArray Q S late (ks.length + g) listed a w
  | [], listed, a, _, _, hB, h => by
    simp only [headB, Option.some.injEq] at hB
    subst hB
    rw [List.length_nil, Nat.zero_add]
    exact hK a h
  | k :: ks, listed, a, hk, hc, hB, h => by
    unfold headB at hB
    split at hB
    · rename_i hrf
      simp only [Bool.and_eq_true] at hrf
      have hr' : k ∈ Region.ready md l.toArray listed := by simpa using hrf.1
      obtain ⟨_, o, h0, _⟩ := mem_ready.1 hr'
      have hp : pick l (k :: ks) = o :: pick l ks := by
        have : l[k]? = some o := by simpa using h0
        simp [pick, this]
      rw [hp] at h
      obtain ⟨v, hy, hr⟩ := h
      rw [show (k :: ks).length + g = (ks.length + g) + 1 by simp; omega]
      exact wpAnyE_firstW h0 (Region.noSelect_spec hsel) (fun c a w => hQ c _ _ a w) (fun j => hlate j k (hk k (by simp))) (hln k (hk k (by simp))) _ listed a w hc (Region.free_spec h0 hrf.2) hr' hy hS
        (wpAnyE_heldW hsel hQ hlate hln hS hK ks _ _ (fun k' h' => hk k' (by simp [h'])) (hc.set hr') hB hr)
    · cases hB

/-- The region, walked as far as 'listed'. -/
structure Good (l : List Oper) (listed : Array Bool) : Prop where
  sel : Region.noSelect l.toArray = true
  closed : Closed .any l.toArray listed
  size : listed.size = l.length
def At (P : Program) (l : List Oper) (Q : Exit → Act → World → Prop) (n : Nat) (listed : Array Bool) (a : Act) (w : World) : Prop :=
  (∀ c (d : Option Tmp) (v : Value) a w, Q (.panic c) (a.put d v) w → Q (.panic c) a w) → Good l listed → wpAny P .any l.toArray Q n listed a w
variable {l : List Oper} {listed l2 l3 : Array Bool} {a : Act} {w : World} {n N : Nat}
theorem at_end (hB : Region.ready .any l.toArray listed = []) (h : Q .normal a w) : At P l Q 0 listed a w := fun _ _ => ⟨hB, h⟩
theorem at_free (hs : List Nat) (l2 : Array Bool) (n : Nat) (hN : hs.length + n = N) (hB : headB .any l.toArray hs listed = some l2) (h : wpHeld P l.toArray (fun _ => True) (fun a' => At P l Q n l2 a' w) (pick l hs) a) : At P l Q N listed a w := by
  subst hN
  intro hQ hg
  have hg2 : Good l l2 := ⟨hg.sel, headB_closed _ _ _ hg.closed hB, by rw [← headB_set _ _ _ hB, size_setAll]; exact hg.size⟩
  exact wpAny_of_E _ _ _ _ (wpAnyE_held (P := P) (Q := Q) (md := .any) (w := w) (S := fun _ => True) (late := fun _ => false) (hs := hs) (g := n) hg.sel hQ (fun _ _ _ h => by cases h) (fun _ _ => rfl) trivial
    (fun a' ha' => wpAnyE_any (fun _ => trivial) _ _ _ _ (ha' hQ hg2)) hs listed a (fun k hk => hk) hg.closed hB h)
theorem at_run (ts : List Nat) (l2 : Array Bool) (n : Nat) (hN : ts.length + n = N) (hB : onesB l.toArray ts listed = some l2) (h : wpList P l.toArray (Exit.then (fun a' w' => At P l Q n l2 a' w') Q) (pick l ts) a w) : At P l Q N listed a w := by
  subst hN
  intro hQ hg
  have hg2 : Good l l2 := ⟨hg.sel, onesB_closed _ _ _ hg.closed hB, by rw [← onesB_set _ _ _ hB, size_setAll]; exact hg.size⟩
  exact wpAny_ones (fun a' w' h' => h' hQ hg2) ts listed a w hB h
/-- 'marks': for each read, a table of operations that wait for it; all that is left is in each table. -/
def leftB (m : Nat) (l3 : Array Bool) (hs : List Nat) (marks : List (List Nat)) : Bool := (List.range m).all fun j => l3.getD j false || (!hs.contains j && marks.all fun ms => ms.contains j)
theorem at_hold (S : World → Prop) (hs es : List Nat) (marks : List (List Nat)) (l2 l3 : Array Bool) (n : Nat) (hN : hs.length + (es.length + n) = N) (hB : headB .any l.toArray hs listed = some l2) (hE : onesB l.toArray es l2 = some l3)
    (hM : ((List.zip hs marks).all fun p => markB .any l.toArray p.1 p.2) = true) (hZ : hs.length = marks.length) (hL : leftB l.length l3 hs marks = true) (hS : S w)
    (h : wpHeld P l.toArray S (fun a' => wpEarly P l.toArray S Q (fun a w => At P l Q n l3 a w) (pick l es) a' w) (pick l hs) a) : At P l Q N listed a w := by
  subst hN
  intro hQ hg
  have hc2 := headB_closed _ _ _ hg.closed hB
  have hz2 : l2.size = l.length := by rw [← headB_set _ _ _ hB, size_setAll]; exact hg.size
  have hg3 : Good l l3 := ⟨hg.sel, onesB_closed _ _ _ hc2 hE, by rw [← onesB_set _ _ _ hE, size_setAll]; exact hz2⟩
  have hall : ∀ j, j < l.length → l3.getD j false = false → j ∉ hs ∧ ∀ ms ∈ marks, j ∈ ms := fun j hj hl => by
    have := List.all_eq_true.1 hL j (List.mem_range.2 hj)
    rw [hl] at this
    simp only [Bool.false_or, Bool.and_eq_true, Bool.not_eq_true', List.all_eq_true] at this
    exact ⟨fun hm => (by rw [List.contains_iff_mem.2 hm] at this; exact absurd this.1 (by simp)), fun ms hms => List.contains_iff_mem.1 (this.2 ms hms)⟩
  refine wpAny_of_E _ _ _ _ (wpAnyE_heldW (P := P) (Q := Q) (md := .any) (w := w) (S := S) (late := fun j => decide (j < l.length) && !l3.getD j false) (hs := hs) (g := es.length + n) hg.sel hQ
    (fun j i hi hj => ?_) (fun i hi => ?_) hS
    (fun a' ha' => wpAnyE_ones (fun a2 w2 h2 => wpAnyE_late _ _ _ _ (fun j hj hjl => ?_) (h2 hQ hg3)) es l2 a' w hE ha') hs listed a (fun k hk => hk) hg.closed hB h)
  · simp only [Bool.and_eq_true, decide_eq_true_eq, Bool.not_eq_true'] at hj
    obtain ⟨_, hm⟩ := hall j hj.1 hj.2
    obtain ⟨x, hx⟩ := List.getElem?_of_mem hi
    obtain ⟨hxl, hxe⟩ := List.getElem?_eq_some_iff.1 hx
    have hmx : marks[x]? = some (marks[x]'(by omega)) := List.getElem?_eq_getElem (by omega)
    have hp : (i, marks[x]'(by omega)) ∈ List.zip hs marks := by
      apply List.mem_of_getElem? (i := x)
      rw [List.getElem?_zip_eq_some]
      exact ⟨hx, hmx⟩
    exact mark_waits (List.all_eq_true.1 hM _ hp) (j + 1) j (by omega) (hm _ (List.mem_of_getElem? hmx))
  · cases hq : (decide (i < l.length) && !l3.getD i false) with
    | false => rfl
    | true =>
      simp only [Bool.and_eq_true, decide_eq_true_eq, Bool.not_eq_true'] at hq
      exact absurd hi (hall i hq.1 hq.2).1
  · have hj2 : j < l.length := by simpa using hj
    simp [hj2, hjl]
theorem wp_region_at {id : Nat} (hm : P.follows .mixedOrders = true) (hB : Region.noSelect l.toArray = true) (hQ : ∀ c (d : Option Tmp) (v : Value) a w, Q (.panic c) (a.put d v) w → Q (.panic c) a w) (hN : l.length = N) (l0 : Array Bool) (h0 : Array.replicate l.length false = l0)
    (h : At P l Q N l0 a w.drew) : (Code.region id l.toArray true).wp P Q a w := by
  subst hN h0
  have hc0 : Closed .any l.toArray (Array.replicate l.length false) := fun j oj _ hl => by rw [getD_replicate_false] at hl; cases hl
  refine wp_region_any hm ?_
  have k := h hQ ⟨hB, hc0, by simp⟩
  have hsz : l.toArray.size = l.length := by simp
  rw [hsz]
  exact k
end
end Go.Proofs.Ytaicbllfkehhjaa
