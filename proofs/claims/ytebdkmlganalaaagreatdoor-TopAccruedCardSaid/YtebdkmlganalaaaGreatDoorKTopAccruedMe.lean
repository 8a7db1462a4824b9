/- A migration in memory; package migrate's once, at its two types. -/
import Derived.Test.YtebdkmlganalaaaGreatDoorKTopAccruedGAL
import Derived.Test.YtebdkmlganalaaaGreatDoorKTopAccruedGAY
import Derived.Laws.EntriesVeiled
namespace Go.Proofs.YtebdkmlganalaaaGreatDoor
open Go.RowKit Go.Shelf

theorem MapV.len {P : Program} {k e t : TypeId} {w : World} {b : Nat} {L : List (Value × Value)} (h : MapV w b L) (ht : P.underlying t = some (.map k e)) (ty : TypeId) : (Builtin.len_ #[t] ty #[.map (some b)]).run P w = .ok (.int .i64 (L.length : Int)) w := by
  obtain ⟨es, clock, hb, rfl, _⟩ := h
  simp [Builtin.len_, run_underlying ht, MapKept.run_getObj_map hb, goInt, Result.andThen]

/-! The different ones, in the order in which they come first. -/
def newL (l : List ByteArray) : List ByteArray := l.foldl (fun a k => if k ∈ a then a else a ++ [k]) []
theorem newL_snoc (l : List ByteArray) (x : ByteArray) : newL (l ++ [x]) = if x ∈ newL l then newL l else newL l ++ [x] := by unfold newL; rw [List.foldl_append]; rfl
theorem newL_all : ∀ n : Nat, ∀ l : List ByteArray, l.length = n → (∀ x, x ∈ newL l ↔ x ∈ l) ∧ (newL l).length ≤ l.length ∧ ((newL l).length = l.length ↔ l.Nodup)
  | 0, l, h => by
    rw [List.eq_nil_of_length_eq_zero h]
    exact ⟨fun x => Iff.rfl, Nat.le_refl _, by simp [newL]⟩
  | n + 1, l, h => by
    have hne : l ≠ [] := by rintro rfl; simp at h
    obtain ⟨l', x, rfl⟩ : ∃ l' x, l = l' ++ [x] := ⟨l.dropLast, l.getLast hne, (List.dropLast_concat_getLast hne).symm⟩
    rw [List.length_append, List.length_singleton] at h
    obtain ⟨h1, h2, h3⟩ := newL_all n l' (by omega)
    rw [newL_snoc]
    have hnd : (l' ++ [x]).Nodup ↔ l'.Nodup ∧ x ∉ l' := by
      rw [List.nodup_append]
      constructor
      · rintro ⟨a, -, b⟩
        exact ⟨a, fun hx => b x hx x (by simp) rfl⟩
      · rintro ⟨a, b⟩
        refine ⟨a, by simp, fun y hy z hz => ?_⟩
        have : z = x := by simpa using hz
        rintro rfl
        exact b (this ▸ hy)
    by_cases hx : x ∈ newL l'
    · rw [if_pos hx]
      refine ⟨fun y => ?_, by rw [List.length_append]; omega, ?_⟩
      · rw [h1, List.mem_append]
        refine ⟨.inl, fun h => h.elim id fun h => ?_⟩
        have : y = x := by simpa using h
        exact this ▸ (h1 x).1 hx
      · rw [List.length_append, List.length_singleton, hnd]
        constructor
        · intro he; omega
        · rintro ⟨-, hb⟩; exact absurd ((h1 x).1 hx) hb
    · rw [if_neg hx]
      refine ⟨fun y => ?_, by rw [List.length_append, List.length_append]; simp only [List.length_singleton]; omega, ?_⟩
      · rw [List.mem_append, List.mem_append, h1]
      · rw [List.length_append, List.length_append, hnd, ← h3]
        simp only [List.length_singleton]
        constructor
        · intro he; exact ⟨by omega, fun hb => hx ((h1 x).2 hb)⟩
        · rintro ⟨he, -⟩; omega
theorem newL_iff (l : List ByteArray) : (newL l).length = l.length ↔ l.Nodup := (newL_all _ l rfl).2.2
theorem newL_le (l : List ByteArray) : (newL l).length ≤ l.length := (newL_all _ l rfl).2.1
theorem newL_take {l : List ByteArray} {k : Nat} {x : ByteArray} (h : l[k]? = some x) : newL (l.take (k + 1)) = if x ∈ newL (l.take k) then newL (l.take k) else newL (l.take k) ++ [x] := by rw [take_snoc' h, newL_snoc]
/-- The map of them. -/
def kTrue (l : List ByteArray) : List (Value × Value) := l.map fun k => (.string k, .bool true)
theorem kTrue_len (l : List ByteArray) : (kTrue l).length = l.length := by unfold kTrue; rw [List.length_map]
theorem kTrue_G (l : List ByteArray) : ∀ p ∈ kTrue l, StrV p.1 := by
  intro p hp
  obtain ⟨k, -, rfl⟩ := List.mem_map.1 hp
  exact ⟨k, rfl⟩
theorem kTrue_mem {l : List ByteArray} {x : ByteArray} (h : x ∈ l) : ((.string x : Value), Value.bool true) ∈ kTrue l := List.mem_map.2 ⟨x, h, rfl⟩
theorem kTrue_ne {l : List ByteArray} {x : ByteArray} (h : x ∉ l) : ∀ p ∈ kTrue l, p.1 ≠ .string x := by
  intro p hp he
  obtain ⟨k, hk, rfl⟩ := List.mem_map.1 hp
  exact h (Value.string.inj he ▸ hk)
theorem kTrue_up (l : List ByteArray) (x : ByteArray) : (kTrue l).map (upV (.string x) (.bool true)) = kTrue l := by
  unfold kTrue
  rw [List.map_map]
  refine List.map_congr_left fun k _ => ?_
  show upV (.string x) (.bool true) ((.string k : Value), Value.bool true) = _
  by_cases h : (.string k : Value) = .string x
  · rw [upV_pos h, h]
  · rw [upV_neg h]
/-- One more key: the map of the different ones. -/
theorem kTrue_step {w : World} {b : Nat} {l : List ByteArray} {k : Nat} {x : ByteArray} (h : MapV w b (kTrue (newL (l.take k)))) (hx : l[k]? = some x) :
    ∃ w', (Instr.mapUpdate 115 (.map (some b)) (.string x) (.bool true)).run Tryz.prog w = .ok () w' ∧ MapV w' b (kTrue (newL (l.take (k + 1)))) ∧ w.grownBy w' (some b) := by
  rw [newL_take hx]
  by_cases hm : x ∈ newL (l.take k)
  · rw [if_pos hm]
    obtain ⟨w', h1, h2, h3⟩ := h.upd_some kysStr Tryz.underlying115 (kTrue_G _) (kTrue_mem hm) (.bool true)
    rw [kTrue_up] at h2
    exact ⟨w', h1, h2, h3⟩
  · rw [if_neg hm]
    obtain ⟨w', h1, h2, h3⟩ := h.upd_none kysStr Tryz.underlying115 (kTrue_G _) ⟨x, rfl⟩ (kTrue_ne hm) (.bool true)
    refine ⟨w', h1, ?_, h3⟩
    have : kTrue (newL (l.take k) ++ [x]) = kTrue (newL (l.take k)) ++ [((.string x : Value), Value.bool true)] := by unfold kTrue; rw [List.map_append]; rfl
    rw [this]
    exact h2

/-! In memory. -/
abbrev S2 := ByteArray × ByteArray
def PrsAt (w : World) (B : Nat) (A : Option Addr) (l : List S2) : Prop :=
  ∀ (i : Nat) (x : S2), l[i]? = some x → ∃ g off, A = some ⟨g, off, none⟩ ∧ g < B ∧ w.cell? ⟨g, off + i * 2, none⟩ = some (.string x.1) ∧ w.cell? ⟨g, off + i * 2 + 1, none⟩ = some (.string x.2)
section
variable {w w' : World} {B B' : Nat} {A : Option Addr}
theorem PrsAt.below {l : List S2} (h : PrsAt w B A l) (hb : Below B w w') : PrsAt w' B A l := fun i s hi => by
  obtain ⟨g, off, hA, hg, c0, c1⟩ := h i s hi
  exact ⟨g, off, hA, hg, (hb.cell (p := ⟨g, off + i * 2, none⟩) hg).trans c0, (hb.cell (p := ⟨g, off + i * 2 + 1, none⟩) hg).trans c1⟩
theorem PrsAt.wide {l : List S2} (h : PrsAt w B A l) (hB : B ≤ B') : PrsAt w B' A l := fun i s hi => by
  obtain ⟨g, off, hA, hg, c0⟩ := h i s hi
  exact ⟨g, off, hA, by omega, c0⟩
theorem PrsAt.nil (w : World) (B : Nat) (A : Option Addr) : PrsAt w B A [] := fun i s hi => by simp at hi
end
/-- Where a migration has its lists. -/
structure MgX where
  a1 : Option Addr
  c1 : Nat
  a2 : Option Addr
  c2 : Nat
  a3 : Option Addr
  c3 : Nat
  tv : List LmV
def mgC (g : Mg) (x : MgX) : Array Value := #[.string g.fr, .string g.tn, .slice x.a1 g.st.length x.c1, .slice x.a2 g.rs.length x.c2, .slice x.a3 g.ts.length x.c3]
structure MgAt (w : World) (B : Nat) (g : Mg) (x : MgX) : Prop where
  st : IntsAt w B x.a1 g.st
  rs : PrsAt w B x.a2 g.rs
  ts : LmsAt w B x.a3 x.tv
  tv : x.tv.map (·.1) = g.ts
  fr : g.fr.size ≤ 9223372036854775807
  tn : g.tn.size ≤ 9223372036854775807
  rn : ∀ r ∈ g.rs, r.1.size ≤ 9223372036854775807 ∧ r.2.size ≤ 9223372036854775807
theorem MgAt.below {w w' : World} {B : Nat} {g : Mg} {x : MgX} (h : MgAt w B g x) (hb : Below B w w') : MgAt w' B g x := ⟨h.st.below hb, h.rs.below hb, h.ts.below hb, h.tv, h.fr, h.tn, h.rn⟩
theorem MgAt.wide {w : World} {B B' : Nat} {g : Mg} {x : MgX} (h : MgAt w B g x) (hB : B ≤ B') : MgAt w B' g x := ⟨h.st.wide hB, h.rs.wide hB, h.ts.wide hB, h.tv, h.fr, h.tn, h.rn⟩
def SmlG (g : Mg) : Prop := g.st.length ≤ 1000000 ∧ g.rs.length ≤ 1000000 ∧ g.ts.length ≤ 1000000

set_option maxRecDepth 100000 in
set_option maxHeartbeats 4000000 in
theorem onceL_any (w : World) (B : Nat) (A : Option Addr) (l : List LmV) (c : Nat) (h : LmsAt w B A l) (hB : B ≤ w.heap.size) (hl : l.length ≤ 4611686018427387904) (gf : Nat)
    (eg : ∀ args w, (callFunc gf args).run Tryz.prog w = .ok (.enter gf args) w)
    (hp : ∀ W (x : LmV), Calls Tryz.prog gf #[.agg #[.string x.1.id, .int .i64 x.1.n, .int .i64 x.1.u, .int .i64 x.1.f, .slice x.2.1 x.1.S.length x.2.2]] W fun e w' => e = .returned (.string x.1.id) ∧ Below W.heap.size W w') :
    Calls Tryz.prog 103 #[.slice A l.length c, .func (.func gf) #[] #[]] w fun e w' => e = .returned (.bool (decide ((l.map fun x : LmV => x.1.id).Nodup))) ∧ Below w.heap.size w w' := by
  obtain ⟨K, hK⟩ : ∃ K, (l.map fun x : LmV => x.1.id) = K := ⟨_, rfl⟩
  have hkl : K.length = l.length := by rw [← hK, List.length_map]
  have hkx : ∀ (k : Nat) (x : LmV), l[k]? = some x → K[k]? = some x.1.id := fun k x hx => by rw [← hK, List.getElem?_map, hx]; rfl
  rw [hK]
  obtain ⟨r, hr⟩ : ∃ r, decide K.Nodup = r := ⟨_, rfl⟩
  rw [hr]
  have HR := Lib.hid hr
  have HP := Lib.hid hp
  have HH := Lib.hid h
  have HKL := Lib.hid hkl
  have HKX := Lib.hid hkx
  have hb0 := (Below.refl w.heap.size w).alloc (Nat.le_refl _) (.map #[] 0)
  have hm0 := MapV.made w
  have hmm := @run_makeMap Tryz.prog
  clear hp h hK hkl hkx hr
  go_enter Tryz.func103, Tryz.ntmps103
  go_wp2_with fail
  go_loopw [11] (fun i wr => ∃ k : Nat, k ≤ l.length ∧ i = .int .i64 (k : Int) ∧ Hid (MapV wr w.heap.size (kTrue (newL (K.take k)))) ∧ Below w.heap.size w wr) (fun i _ => l.length - (intOf i).toNat)
  case atStart => exact ⟨0, Nat.zero_le _, rfl, Lib.hid hm0, hb0⟩
  case round =>
    clear hb0 hm0 hmm
    obtain ⟨k, hk, rfl, HM, hb⟩ := hrel
    by_cases hlt : k < l.length
    · obtain ⟨x, hx⟩ : ∃ x, l[k]? = some x := ⟨_, List.getElem?_eq_getElem hlt⟩
      obtain ⟨g, off, hA, hg, c0, c1, c2, c3, c4, -⟩ := (HH.out.below (hb.mono hB)) k x hx
      subst hA
      have HX := Lib.hid (HKX.out k x hx)
      clear hx
      have b0 : Below w.heap.size w (wr.alloc (.cells #[.string x.1.id, .int .i64 x.1.n, .int .i64 x.1.u, .int .i64 x.1.f, .slice x.2.1 x.1.S.length x.2.2] 66)) := hb.alloc hb.size _
      have kx := Blk.new wr 66 #[.string x.1.id, .int .i64 x.1.n, .int .i64 x.1.u, .int .i64 x.1.f, .slice x.2.1 x.1.S.length x.2.2]
      obtain ⟨t0, t1, t2⟩ := kx.all
      have KX := Lib.hid kx
      have m0 : MapV (wr.alloc (.cells #[.string x.1.id, .int .i64 x.1.n, .int .i64 x.1.u, .int .i64 x.1.f, .slice x.2.1 x.1.S.length x.2.2] 66)) w.heap.size (kTrue (newL (K.take k))) := HM.out.alloc _
      have M0 := Lib.hid m0
      have B0 := Lib.hid b0
      clear m0 b0 hb HM kx
      go_wp2_with fail
      refine (HP.out _ x).mono ?_
      rintro e w2 ⟨rfl, b2⟩
      have B2 := Lib.hid (B0.out.trans (b2.mono B0.out.size))
      have M2 := Lib.hid (M0.out.below b2 M0.out.lt)
      clear b2 t0 t1 t2 KX
      obtain ⟨w3, hu, hm3, hg3⟩ := kTrue_step M2.out HX.out
      have hb3 := B2.out.grown hg3 B2.out.size (fun j e => by injection e with e; omega)
      have HM3 := Lib.hid hm3
      clear hm3 hg3
      go_wp2
      go_roundw
      case rel => exact ⟨k + 1, by omega, by go_num, HM3, hb3⟩
      case measure => simp [intOf]; omega
    · obtain rfl : k = l.length := by omega
      have hlen := fun ty => HM.out.len Tryz.underlying115 ty
      rw [kTrue_len, ← HKL.out, List.take_length] at hlen
      obtain ⟨n, hn⟩ : ∃ n, (newL K).length = n := ⟨_, rfl⟩
      rw [hn] at hlen
      have hdd : ((n : Int) == (l.length : Int)) = decide K.Nodup := by
        rw [← hn, ← HKL.out]
        have h1 := newL_iff K
        by_cases h2 : K.Nodup
        · have h3 := h1.2 h2
          rw [decide_eq_true h2]
          exact beq_iff_eq.2 (by omega)
        · rw [decide_eq_false h2]
          exact beq_eq_false_iff_ne.2 fun h3 => h2 (h1.1 (by omega))
      rw [HR.out] at hdd
      have HDD := Lib.hid hdd
      clear hn HM HKL HKX HP HH HR hdd
      go_wp2
      go_ret
      exact ⟨congrArg (fun b => Ending.returned (.bool b)) HDD.out, hb⟩

set_option maxRecDepth 100000 in
set_option maxHeartbeats 4000000 in
theorem onceP_any (w : World) (B : Nat) (A : Option Addr) (l : List S2) (c : Nat) (h : PrsAt w B A l) (hB : B ≤ w.heap.size) (hl : l.length ≤ 4611686018427387904) (gf : Nat)
    (eg : ∀ args w, (callFunc gf args).run Tryz.prog w = .ok (.enter gf args) w)
    (hp : ∀ W (x : S2), Calls Tryz.prog gf #[.agg #[.string x.1, .string x.2]] W fun e w' => e = .returned (.string x.1) ∧ Below W.heap.size W w') :
    Calls Tryz.prog 101 #[.slice A l.length c, .func (.func gf) #[] #[]] w fun e w' => e = .returned (.bool (decide ((l.map fun x : S2 => x.1).Nodup))) ∧ Below w.heap.size w w' := by
  obtain ⟨K, hK⟩ : ∃ K, (l.map fun x : S2 => x.1) = K := ⟨_, rfl⟩
  have hkl : K.length = l.length := by rw [← hK, List.length_map]
  have hkx : ∀ (k : Nat) (x : S2), l[k]? = some x → K[k]? = some x.1 := fun k x hx => by rw [← hK, List.getElem?_map, hx]; rfl
  rw [hK]
  obtain ⟨r, hr⟩ : ∃ r, decide K.Nodup = r := ⟨_, rfl⟩
  rw [hr]
  have HR := Lib.hid hr
  have HP := Lib.hid hp
  have HH := Lib.hid h
  have HKL := Lib.hid hkl
  have HKX := Lib.hid hkx
  have hb0 := (Below.refl w.heap.size w).alloc (Nat.le_refl _) (.map #[] 0)
  have hm0 := MapV.made w
  have hmm := @run_makeMap Tryz.prog
  clear hp h hK hkl hkx hr
  go_enter Tryz.func101, Tryz.ntmps101
  go_wp2_with fail
  go_loopw [11] (fun i wr => ∃ k : Nat, k ≤ l.length ∧ i = .int .i64 (k : Int) ∧ Hid (MapV wr w.heap.size (kTrue (newL (K.take k)))) ∧ Below w.heap.size w wr) (fun i _ => l.length - (intOf i).toNat)
  case atStart => exact ⟨0, Nat.zero_le _, rfl, Lib.hid hm0, hb0⟩
  case round =>
    clear hb0 hm0 hmm
    obtain ⟨k, hk, rfl, HM, hb⟩ := hrel
    by_cases hlt : k < l.length
    · obtain ⟨x, hx⟩ : ∃ x, l[k]? = some x := ⟨_, List.getElem?_eq_getElem hlt⟩
      obtain ⟨g, off, hA, hg, c0, c1⟩ := (HH.out.below (hb.mono hB)) k x hx
      subst hA
      have HX := Lib.hid (HKX.out k x hx)
      clear hx
      have b0 : Below w.heap.size w (wr.alloc (.cells #[.string x.1, .string x.2] 67)) := hb.alloc hb.size _
      have kx := Blk.new wr 67 #[.string x.1, .string x.2]
      obtain ⟨t0, t1, t2⟩ := kx.all
      have KX := Lib.hid kx
      have m0 : MapV (wr.alloc (.cells #[.string x.1, .string x.2] 67)) w.heap.size (kTrue (newL (K.take k))) := HM.out.alloc _
      have M0 := Lib.hid m0
      have B0 := Lib.hid b0
      clear m0 b0 hb HM kx
      go_wp2_with fail
      refine (HP.out _ x).mono ?_
      rintro e w2 ⟨rfl, b2⟩
      have B2 := Lib.hid (B0.out.trans (b2.mono B0.out.size))
      have M2 := Lib.hid (M0.out.below b2 M0.out.lt)
      clear b2 t0 t1 t2 KX
      obtain ⟨w3, hu, hm3, hg3⟩ := kTrue_step M2.out HX.out
      have hb3 := B2.out.grown hg3 B2.out.size (fun j e => by injection e with e; omega)
      have HM3 := Lib.hid hm3
      clear hm3 hg3
      go_wp2
      go_roundw
      case rel => exact ⟨k + 1, by omega, by go_num, HM3, hb3⟩
      case measure => simp [intOf]; omega
    · obtain rfl : k = l.length := by omega
      have hlen := fun ty => HM.out.len Tryz.underlying115 ty
      rw [kTrue_len, ← HKL.out, List.take_length] at hlen
      obtain ⟨n, hn⟩ : ∃ n, (newL K).length = n := ⟨_, rfl⟩
      rw [hn] at hlen
      have hdd : ((n : Int) == (l.length : Int)) = decide K.Nodup := by
        rw [← hn, ← HKL.out]
        have h1 := newL_iff K
        by_cases h2 : K.Nodup
        · have h3 := h1.2 h2
          rw [decide_eq_true h2]
          exact beq_iff_eq.2 (by omega)
        · rw [decide_eq_false h2]
          exact beq_eq_false_iff_ne.2 fun h3 => h2 (h1.1 (by omega))
      rw [HR.out] at hdd
      have HDD := Lib.hid hdd
      clear hn HM HKL HKX HP HH HR hdd
      go_wp2
      go_ret
      exact ⟨congrArg (fun b => Ending.returned (.bool b)) HDD.out, hb⟩

theorem key4_any (w : World) (x : S2) : Calls Tryz.prog 102 #[.agg #[.string x.1, .string x.2]] w fun e w' => e = .returned (.string x.1) ∧ Below w.heap.size w w' := by
  have hb := (Below.refl w.heap.size w).alloc (Nat.le_refl _) (.cells #[.string x.1, .string x.2] 67)
  obtain ⟨t0, t1, t2⟩ := (Blk.new w 67 #[.string x.1, .string x.2]).all
  go_enter Tryz.func102, Tryz.ntmps102
  go_wp2
  go_ret
  exact ⟨rfl, hb⟩

theorem key5_any (w : World) (x : LmV) : Calls Tryz.prog 104 #[.agg #[.string x.1.id, .int .i64 x.1.n, .int .i64 x.1.u, .int .i64 x.1.f, .slice x.2.1 x.1.S.length x.2.2]] w fun e w' => e = .returned (.string x.1.id) ∧ Below w.heap.size w w' := by
  have hb := (Below.refl w.heap.size w).alloc (Nat.le_refl _) (.cells #[.string x.1.id, .int .i64 x.1.n, .int .i64 x.1.u, .int .i64 x.1.f, .slice x.2.1 x.1.S.length x.2.2] 66)
  obtain ⟨t0, t1, t2⟩ := (Blk.new w 66 #[.string x.1.id, .int .i64 x.1.n, .int .i64 x.1.u, .int .i64 x.1.f, .slice x.2.1 x.1.S.length x.2.2]).all
  go_enter Tryz.func104, Tryz.ntmps104
  go_wp2
  go_ret
  exact ⟨rfl, hb⟩

end Go.Proofs.YtebdkmlganalaaaGreatDoor
