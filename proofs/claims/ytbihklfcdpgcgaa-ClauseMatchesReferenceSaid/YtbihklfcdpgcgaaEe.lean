/- A page in memory; New, open. -/
import Derived.Test.YtbihklfcdpgcgaaEc
import Derived.Test.YtbihklfcdpgcgaaEd
namespace Go.Proofs.Ytbihklfcdpgcgaa
open Go.RowKit

def iterLeft (w : World) (b r : Nat) : Nat := match w.heap[b]?, w.heap[r]? with
  | some (.map es _), some (.mapIter _ _ seen _) => (es.toList.filter fun e => !seen.contains e.born).length
  | _, _ => 0
theorem IterV.left {w : World} {b r : Nat} {L T : List (Value × Value)} (h : IterV w b r L T) : iterLeft w b r = T.length := by
  obtain ⟨es, clock, since, seen, c0, h1, h2, h3, h4, _, _, _, h5⟩ := h
  unfold iterLeft
  rw [h1, h4, ← h5, List.length_map]

/-- The keys of a page. -/
def StV (v : Value) : Prop := ∃ s : St2, v = .agg (stA s)
theorem stA_inj {s t : St2} (h : Value.agg (stA s) = .agg (stA t)) : s = t := by
  obtain ⟨a, b⟩ := s
  obtain ⟨c, d⟩ := t
  simp [stA] at h
  rw [h.1, h.2]
set_option maxRecDepth 100000 in
theorem checkS (w : World) (em : Bool) (s : St2) : (Instr.checkKey em 10000 29 (.agg (stA s))).run Try.prog w = .ok () w := by
  have hi : ∀ (W : World) (x : Int), (Instr.checkKey em 9999 3 (.int .i64 x)).run Try.prog W = .ok () W := fun W x => by
    rw [show (9999 : Nat) = 9998 + 1 from rfl]
    unfold Instr.checkKey
    simp [run_underlying Try.underlying3]
  rw [show (10000 : Nat) = 9999 + 1 from rfl]
  unfold Instr.checkKey
  simp [run_underlying Try.underlying29, stA, go_sem, hi]
theorem askS (w : World) (s : St2) : ∀ (es : List MapEntry) (i : Nat), (∀ e ∈ es, StV e.key) →
    ((Instr.findAsking 29 (.agg (stA s)) es i).run Try.prog w = .ok none w ∧ ∀ e ∈ es, e.key ≠ .agg (stA s)) ∨ ∃ (j : Nat) (e : MapEntry), (Instr.findAsking 29 (.agg (stA s)) es i).run Try.prog w = .ok (some (i + j, e.val)) w ∧ es[j]? = some e ∧ e.key = .agg (stA s)
  | [], i, _ => .inl ⟨rfl, by simp⟩
  | x :: es, i, h => by
    obtain ⟨t, ht⟩ := h x List.mem_cons_self
    have heq := eq_st s t w
    unfold Instr.findAsking
    rw [Sem.run_bind]
    have h1 : (Op.equal 29 (.agg (stA s)) x.key).run Try.prog w = .ok (decide (s = t)) w := by rw [ht]; exact heq
    rw [h1]
    by_cases hst : s = t
    · right
      refine ⟨0, x, ?_, rfl, by rw [ht, hst]⟩
      simp [hst]
    · have hne : x.key ≠ .agg (stA s) := fun e => hst (stA_inj (e.symm.trans ht))
      simp only [hst, decide_false, Result.andThen_ok, Bool.false_eq_true, if_false]
      rcases askS w s es (i + 1) (fun e he => h e (List.mem_cons_of_mem _ he)) with ⟨h2, h3⟩ | ⟨j, e, h2, h3, h4⟩
      · refine .inl ⟨h2, fun e he => ?_⟩
        rcases List.mem_cons.1 he with rfl | he
        · exact hne
        · exact h3 e he
      · exact .inr ⟨j + 1, e, by rw [h2, show i + 1 + j = i + (j + 1) by omega], by simpa using h3, h4⟩
theorem kysS : Kys Try.prog 29 StV where
  check w em v hv := by obtain ⟨s, rfl⟩ := hv; exact checkS w em s
  find w x hx es hes := by
    obtain ⟨s, rfl⟩ := hx
    have hu := run_underlying Try.underlying29 w
    cases es with
    | nil =>
      refine .inl ⟨?_, by simp⟩
      simp [Instr.findKey, hu, Instr.findNow]
    | cons e es =>
      have h1 : (Instr.findKey 29 (.agg (stA s)) (e :: es)).run Try.prog w = (Instr.findAsking 29 (.agg (stA s)) (e :: es) 0).run Try.prog w := by
        simp [Instr.findKey, hu, Instr.findNow, Instr.sameNow]
      rcases askS w s (e :: es) 0 hes with ⟨h2, h3⟩ | ⟨j, e', h2, h3, h4⟩
      · exact .inl ⟨h1.trans h2, h3⟩
      · exact .inr ⟨j, e', by rw [h1, h2, Nat.zero_add], h3, h4⟩
  stays w v hv := by
    obtain ⟨⟨a, b⟩, rfl⟩ := hv
    have : Instr.sameBits 10000 (.agg (stA (a, b))) (.agg (stA (a, b))) = true := by
      rw [show (10000 : Nat) = 9999 + 1 from rfl]
      simp [Instr.sameBits, stA]
    simp [Instr.keyThatStays, this]

def kvC (c : Cl) : Value × Value := (.agg (stA c.id), .agg (clA c))
def kvs (L : List Cl) : List (Value × Value) := L.map kvC
theorem kvs_key {L : List Cl} : ∀ p ∈ kvs L, StV p.1 := fun p hp => by
  obtain ⟨c, _, rfl⟩ := List.mem_map.1 hp
  exact ⟨c.id, rfl⟩
/-- A page: its block and its map's. -/
structure PgAt (w : World) (p b : Nat) (L : List Cl) : Prop where
  blk : Blk w p 65 #[.map (some b)]
  map : ∃ L', MapV w b (kvs L') ∧ L'.Perm L
theorem MapV.only {w w' : World} {b : Nat} {L : List (Value × Value)} {F : Foot} (h : MapV w b L) (hO : Only F w w') (hF : ¬ F b) : MapV w' b L := h.of_block (hO.block b h.lt hF)
theorem Blk.onl {w w' : World} {g : Nat} {t : TypeId} {cs : Array Value} {F : Foot} (h : Blk w g t cs) (hO : Only F w w') (hF : ¬ F g) : Blk w' g t cs := (hO.block g h.lt hF).trans h
theorem PgAt.only {w w' : World} {p b : Nat} {L : List Cl} {F : Foot} (h : PgAt w p b L) (hO : Only F w w') (h1 : ¬ F p) (h2 : ¬ F b) : PgAt w' p b L := by
  obtain ⟨L', k1, k2⟩ := h.map
  exact ⟨h.blk.onl hO h1, L', k1.only hO h2, k2⟩
theorem PgAt.below {w w' : World} {p b : Nat} {L : List Cl} (h : PgAt w p b L) (hb : Below w.heap.size w w') : PgAt w' p b L := h.only (Only.of_below hb fun _ => False) id id
theorem PgAt.ltb {w : World} {p b : Nat} {L : List Cl} (h : PgAt w p b L) : b < w.heap.size := by
  obtain ⟨L', k1, k2⟩ := h.map
  exact k1.lt
theorem PgAt.ne {w : World} {p b : Nat} {L : List Cl} (h : PgAt w p b L) : p ≠ b := by
  obtain ⟨L', ⟨es, clock, k1, _⟩, _⟩ := h.map
  have := h.blk
  unfold Blk at this
  intro e
  rw [e, k1] at this
  cases this
theorem PgAt.perm {w : World} {p b : Nat} {L M : List Cl} (h : PgAt w p b L) (hp : L.Perm M) : PgAt w p b M := by
  obtain ⟨L', k1, k2⟩ := h.map
  exact ⟨h.blk, L', k1, k2.trans hp⟩

set_option maxRecDepth 100000 in
theorem new_any (w : World) : Calls Try.prog 10 #[] w fun e w' => ∃ p b : Nat, e = .returned (.pointer (some ⟨p, 0, none⟩)) ∧ PgAt w' p b [] ∧ w.heap.size ≤ p ∧ w.heap.size ≤ b ∧ Below w.heap.size w w' := by
  have hb := (Below.refl w.heap.size w).alloc (Nat.le_refl _) (.map #[] 0)
  have hm := MapV.made w
  have hlt : w.heap.size < (w.alloc (.map #[] 0)).heap.size := by simp
  have hmm := @run_makeMap Try.prog
  go_enter Try.func10, Try.ntmps10
  go_wp2
  go_ret
  have hk := Blk.new1 w (.map #[] 0) 65 #[.map (some w.heap.size)]
  refine ⟨w.heap.size + 1, w.heap.size, rfl, ⟨hk, [], (hm.alloc _), List.Perm.refl _⟩, by omega, Nat.le_refl _, hb.alloc hb.size _⟩

theorem openN_cons (c : Cl) (L : List Cl) : openN (c :: L) = openN L + (if c.gone then 0 else 1) := by
  unfold openN
  rw [List.countP_cons]
  cases c.gone <;> rfl
set_option maxRecDepth 100000 in
set_option maxHeartbeats 8000000 in
theorem open_any (w : World) (b : Nat) (L : List Cl) (h : MapV w b (kvs L)) (hl : L.length ≤ 1000000) : Calls Try.prog 34 #[.map (some b)] w fun e w' => e = .returned (.int .i64 (openN L : Nat)) ∧ Below w.heap.size w w' := by
  obtain ⟨o, hr, hI⟩ := h.range (P := Try.prog) Try.underlying63
  have hb := (Below.refl w.heap.size w).alloc (Nat.le_refl _) o
  have hlt := h.lt
  have hopl : openN L ≤ L.length := List.countP_le_length
  generalize w.alloc o = X at *
  have HI := Lib.hid hI
  have HB := Lib.hid hb
  clear hI hb h
  go_enter Try.func34, Try.ntmps34
  go_wp2_with fail
  go_loopw [3] (fun v wr => ∃ (n : Nat) (T : List Cl), v = .int .i64 (n : Int) ∧ IterV wr b w.heap.size (kvs L) (kvs T) ∧ Below w.heap.size w wr ∧ Hid (n + openN T = openN L)) (fun _ wr => iterLeft wr b w.heap.size)
  case atStart => exact ⟨0, L, rfl, HI.out, HB.out, Lib.hid (Nat.zero_add _)⟩
  case round =>
    clear HI HB hr
    obtain ⟨n, T, rfl, I, hb, HN⟩ := hrel
    have hleft := I.left
    rcases I.next (P := Try.prog) 0 with ⟨hT, hnx⟩ | ⟨A, B, x, v, w1, hT, hxv, hnx, hg, I1, hen⟩
    · have hfin : n = openN L := by
        have := HN.out
        have hT' : T = [] := by simpa [kvs] using hT
        rw [hT'] at this
        simpa [openN] using this
      subst hfin
      clear HN hT hleft
      go_wp2
      go_ret
      exact ⟨rfl, hb⟩
    · obtain ⟨A', R, rfl, hA, hR⟩ := List.map_eq_append_iff.1 hT
      obtain ⟨c, B', rfl, hc, hB⟩ := List.map_eq_cons_iff.1 hR
      obtain ⟨rfl, rfl⟩ : x = .agg (stA c.id) ∧ v = .agg (clA c) := by
        have : kvC c = (x, v) := hc
        unfold kvC at this
        exact ⟨(congrArg Prod.fst this).symm, (congrArg Prod.snd this).symm⟩
      have I2 : IterV w1 b w.heap.size (kvs L) (kvs (A' ++ B')) := by
        rw [← hA, ← hB, ← List.map_append] at I1
        exact I1
      have hb1 : Below w.heap.size w w1 := hb.grown hg hb.size (fun y hy => by injection hy with hy; omega)
      have hIlt := I2.ltr
      have hen2 : ∀ W : World, W.heap[b]? = w1.heap[b]? → W.heap[w.heap.size]? = w1.heap[w.heap.size]? → (Instr.entry (.pointer (some ⟨w.heap.size, 0, none⟩))).run Try.prog W = .ok (.tuple #[.agg (stA c.id), .agg (clA c)]) W := hen
      have hent := hen2 w1 rfl rfl
      have kN := Blk.new w1 35 (clA c)
      have hpc := put_cl w1 c
      have hcz := clA_size c
      obtain ⟨-, -, -, -, k19⟩ := cl_cells kN
      have hb2 := hb1.alloc hb1.size (.cells (clA c) 35)
      have I3 : IterV (w1.alloc (.cells (clA c) 35)) b w.heap.size (kvs L) (kvs (A' ++ B')) := I2.of_blocks (Below.heap_alloc w1 _ b I2.map.lt) (Below.heap_alloc w1 _ _ hIlt)
      have hleft2 := I3.left
      have hopn : openN (A' ++ c :: B') = openN (A' ++ B') + (if c.gone then 0 else 1) := by
        rw [openN_perm (List.perm_middle (a := c) (l₁ := A') (l₂ := B')), openN_cons]
      have HOP := Lib.hid hopn
      have hnl : n ≤ 1000000 := by have := HN.out; omega
      have I3H := Lib.hid I3
      clear I I1 I2 hT hR hc hA hB hxv hen hen2 kN hopn I3 hg hb hb1
      generalize clA c = CC at *
      cases hgn : c.gone with
      | true =>
        rw [hgn] at k19 HOP
        have HN2 := Lib.hid (show n + openN (A' ++ B') = openN L by have := HN.out; have := HOP.out; simp at this; omega)
        clear HN HOP hgn
        go_wp2_with fail
        go_roundw
        case rel => exact ⟨n, A' ++ B', rfl, I3H.out, hb2, HN2⟩
        case measure => rw [hleft2, hleft]; simp [kvs]
      | false =>
        rw [hgn] at k19 HOP
        have HN2 := Lib.hid (show n + 1 + openN (A' ++ B') = openN L by have := HN.out; have := HOP.out; simp at this; omega)
        clear HN HOP hgn
        go_wp2_with fail
        go_roundw
        case rel => exact ⟨n + 1, A' ++ B', by go_num, I3H.out, hb2, HN2⟩
        case measure => rw [hleft2, hleft]; simp [kvs]
end Go.Proofs.Ytbihklfcdpgcgaa
