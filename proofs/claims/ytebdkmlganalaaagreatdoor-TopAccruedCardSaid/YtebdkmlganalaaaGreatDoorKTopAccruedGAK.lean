/- Maps as lists of entries: laws on the run of each operation. Over any program. Matters, procedures, domains as plain data: what is formed, proper, valid; moves and rights. -/
import Derived.Test.YtebdkmlganalaaaGreatDoorKTopAccruedGAA
import Derived.Maps.Own
import Derived.Maps.RangeRun
import Derived.MapKept
import Derived.Test.YtebdkmlganalaaaGreatDoorKTopAccruedGAG
namespace Go.Proofs.YtebdkmlganalaaaGreatDoor
open Go.RowKit Go.MapKept Go.ChangeMaps

/-- Keys of one type, those with G. -/
structure Kys (P : Program) (k : TypeId) (G : Value → Prop) : Prop where
  check : ∀ (w : World) (em : Bool) {v : Value}, G v → (Instr.checkKey em 10000 k v).run P w = .ok () w
  find : ∀ (w : World) {x : Value}, G x → ∀ es : List MapEntry, (∀ e ∈ es, G e.key) →
    ((Instr.findKey k x es).run P w = .ok none w ∧ ∀ e ∈ es, e.key ≠ x) ∨ ∃ (j : Nat) (e : MapEntry), (Instr.findKey k x es).run P w = .ok (some (j, e.val)) w ∧ es[j]? = some e ∧ e.key = x
  stays : ∀ (w : World) {v : Value}, G v → (Instr.keyThatStays v v).run P w = .ok v w

def kvOf (e : MapEntry) : Value × Value := (e.key, e.val)
/-- Block b is a map with these entries, in the order in which they came. -/
def MapV (w : World) (b : Nat) (L : List (Value × Value)) : Prop := ∃ es clock, w.heap[b]? = some (.map es clock) ∧ es.toList.map kvOf = L ∧ Stamped es clock
open Classical in
noncomputable def upV (x v : Value) (p : Value × Value) : Value × Value := if p.1 = x then (x, v) else p

theorem upV_pos {x v : Value} {p : Value × Value} (h : p.1 = x) : upV x v p = (x, v) := if_pos h
theorem upV_neg {x v : Value} {p : Value × Value} (h : ¬ p.1 = x) : upV x v p = p := if_neg h
section
variable {P : Program} {k e t : TypeId} {G : Value → Prop} {w w' : World} {b : Nat} {L : List (Value × Value)}
theorem MapV.lt (h : MapV w b L) : b < w.heap.size := by
  obtain ⟨es, clock, hb, _⟩ := h
  exact (Array.getElem?_eq_some_iff.1 hb).1
theorem MapV.of_block (h : MapV w b L) (hb : w'.heap[b]? = w.heap[b]?) : MapV w' b L := by
  obtain ⟨es, clock, h1, h2⟩ := h
  exact ⟨es, clock, hb.trans h1, h2⟩
theorem MapV.below {B : Nat} (h : MapV w b L) (hb : Below B w w') (hlt : b < B) : MapV w' b L := h.of_block (hb.block b hlt)
theorem MapV.grown {row : Option Nat} (h : MapV w b L) (hg : w.grownBy w' row) (hne : some b ≠ row) : MapV w' b L := h.of_block (hg.block b h.lt hne)
theorem MapV.alloc (h : MapV w b L) (o : Obj) : MapV (w.alloc o) b L := h.grown (World.grownBy_alloc w o none) (by simp)
theorem MapV.made (w : World) : MapV (w.alloc (.map #[] 0)) w.heap.size [] := ⟨#[], 0, (MapKept.heap_alloc w _).1, by simp, stamped_empty 0⟩
theorem setBlock_grown {es : Array MapEntry} {clock : Nat} (hb : w.heap[b]? = some (.map es clock)) (o : Obj) : w.grownBy (setBlock w b o) (some b) :=
  ⟨rfl, rfl, rfl, by simp [setBlock], fun i _ hi => heap_setBlock_other hb _ (fun e => hi (by rw [e]))⟩

theorem MapV.look_some (h : MapV w b L) (K : Kys P k G) (ht : P.underlying t = some (.map k e)) (hG : ∀ p ∈ L, G p.1) {x v : Value} (hm : (x, v) ∈ L) (c : Bool) :
    (Instr.lookup t (.map (some b)) x c).run P w = .ok (if c then .tuple #[v, .bool true] else v) w := by
  obtain ⟨es, clock, hb, rfl, hst⟩ := h
  obtain ⟨_, hn, hk⟩ := (stamped_iff es clock).1 hst
  have hGe : ∀ e ∈ es.toList, G e.key := fun e he => hG _ (List.mem_map.2 ⟨e, he, rfl⟩)
  obtain ⟨e0, he0, h0⟩ := List.mem_map.1 hm
  have hx : e0.key = x := congrArg Prod.fst h0
  have hv : e0.val = v := congrArg Prod.snd h0
  have hgx : G x := hx ▸ hGe e0 he0
  rcases K.find w hgx es.toList hGe with ⟨_, h2⟩ | ⟨j, e1, h1, h2, h3⟩
  · exact absurd hx (h2 e0 he0)
  · have : e1 = e0 := entry_eq_of_key hk (List.mem_of_getElem? h2) he0 (h3.trans hx.symm)
    subst this
    simp [Instr.lookup, run_underlying ht, MapKept.run_getObj_map hb, K.check w _ hgx, h1, Result.andThen, hv]
theorem MapV.look_none (h : MapV w b L) (K : Kys P k G) (ht : P.underlying t = some (.map k e)) (hG : ∀ p ∈ L, G p.1) {x z : Value} (hx : G x) (hm : ∀ p ∈ L, p.1 ≠ x) (hz : (zeroValue e).run P w = .ok z w) (c : Bool) :
    (Instr.lookup t (.map (some b)) x c).run P w = .ok (if c then .tuple #[z, .bool false] else z) w := by
  obtain ⟨es, clock, hb, rfl, hst⟩ := h
  have hGe : ∀ e ∈ es.toList, G e.key := fun e he => hG _ (List.mem_map.2 ⟨e, he, rfl⟩)
  rcases K.find w hx es.toList hGe with ⟨h1, _⟩ | ⟨j, e1, h1, h2, h3⟩
  · simp [Instr.lookup, run_underlying ht, MapKept.run_getObj_map hb, K.check w _ hx, h1, hz, Result.andThen]
  · exact absurd h3 (hm _ (List.mem_map.2 ⟨e1, List.mem_of_getElem? h2, rfl⟩))

theorem modify_kv {es : Array MapEntry} {clock j : Nat} {e0 : MapEntry} {x v : Value} (hst : Stamped es clock) (h2 : es.toList[j]? = some e0) (h3 : e0.key = x) :
    (es.modify j fun e' => { e' with key := x, val := v }).toList.map kvOf = (es.toList.map kvOf).map (upV x v) ∧ Stamped (es.modify j fun e' => { e' with key := x, val := v }) clock := by
  have hj : es[j]? = some e0 := by simpa using h2
  obtain ⟨_, _, hk⟩ := (stamped_iff es clock).1 hst
  refine ⟨?_, stamped_modify hst _ _ (fun _ _ => rfl) (fun e' _ he' => by rw [hj] at he'; cases he'; exact h3.symm)⟩
  rw [Array.toList_modify, modify_eq_set _ _ _ _ h2]
  apply List.ext_getElem?
  intro i
  rw [List.getElem?_map, List.getElem?_map, List.getElem?_map, List.getElem?_set]
  by_cases hij : j = i
  · subst hij
    have hlt := (List.getElem?_eq_some_iff.1 h2).1
    rw [if_pos rfl, if_pos hlt, h2]
    simp [kvOf, upV, h3]
  · rw [if_neg hij]
    cases hi : es.toList[i]? with
    | none => rfl
    | some y =>
      have hne : y.key ≠ x := fun e1 => by
        have hy := List.mem_of_getElem? hi
        have h0 := List.mem_of_getElem? h2
        have := entry_eq_of_key hk hy h0 (e1.trans h3.symm)
        subst this
        have hnd : es.toList.Nodup := hk.imp fun h e => h (by rw [e])
        exact hij ((List.getElem?_inj (List.getElem?_eq_some_iff.1 h2).1 hnd).1 (h2.trans hi.symm))
      simp [kvOf, upV, hne]
theorem MapV.upd_some (h : MapV w b L) (K : Kys P k G) (ht : P.underlying t = some (.map k e)) (hG : ∀ p ∈ L, G p.1) {x v0 : Value} (hm : (x, v0) ∈ L) (v : Value) :
    ∃ w', (Instr.mapUpdate t (.map (some b)) x v).run P w = .ok () w' ∧ MapV w' b (L.map (upV x v)) ∧ w.grownBy w' (some b) := by
  obtain ⟨es, clock, hb, rfl, hst⟩ := h
  have hGe : ∀ e ∈ es.toList, G e.key := fun e he => hG _ (List.mem_map.2 ⟨e, he, rfl⟩)
  obtain ⟨e0, he0, h0⟩ := List.mem_map.1 hm
  have hx : e0.key = x := congrArg Prod.fst h0
  have hgx : G x := hx ▸ hGe e0 he0
  rcases K.find w hgx es.toList hGe with ⟨_, h2⟩ | ⟨j, e1, h1, h2, h3⟩
  · exact absurd hx (h2 e0 he0)
  · have hj : es[j]? = some e1 := by simpa using h2
    obtain ⟨k1, k2⟩ := modify_kv (v := v) hst h2 h3
    refine ⟨setBlock w b (.map (es.modify j fun e' => { e' with key := x, val := v }) clock), ?_, ⟨_, clock, heap_setBlock_same hb _, k1, k2⟩, setBlock_grown hb _⟩
    simp [Instr.mapUpdate, run_underlying ht, MapKept.run_getObj_map hb, K.check w false hgx, h1, hj, h3, K.stays w hgx, MapKept.run_setObj_map _ hb, Result.andThen, setBlock]
theorem MapV.upd_none (h : MapV w b L) (K : Kys P k G) (ht : P.underlying t = some (.map k e)) (hG : ∀ p ∈ L, G p.1) {x : Value} (hx : G x) (hm : ∀ p ∈ L, p.1 ≠ x) (v : Value) :
    ∃ w', (Instr.mapUpdate t (.map (some b)) x v).run P w = .ok () w' ∧ MapV w' b (L ++ [(x, v)]) ∧ w.grownBy w' (some b) := by
  obtain ⟨es, clock, hb, rfl, hst⟩ := h
  have hGe : ∀ e ∈ es.toList, G e.key := fun e he => hG _ (List.mem_map.2 ⟨e, he, rfl⟩)
  rcases K.find w hx es.toList hGe with ⟨h1, h2⟩ | ⟨j, e1, h1, h2, h3⟩
  · refine ⟨setBlock w b (.map (es.push ⟨x, v, clock⟩) (clock + 1)), ?_, ⟨_, _, heap_setBlock_same hb _, by simp [kvOf], stamped_push hst h2⟩, setBlock_grown hb _⟩
    simp [Instr.mapUpdate, run_underlying ht, MapKept.run_getObj_map hb, K.check w false hx, h1, MapKept.run_setObj_map _ hb, Result.andThen, setBlock]
  · exact absurd h3 (hm _ (List.mem_map.2 ⟨e1, List.mem_of_getElem? h2, rfl⟩))

/-! ### m[k] = f(m[k]) -/
theorem modify_same {es : Array MapEntry} {j : Nat} {e0 : MapEntry} (h2 : es.toList[j]? = some e0) : (es.modify j fun e' => { e' with key := e0.key }) = es := by
  apply Array.toList_inj.1
  rw [Array.toList_modify, modify_eq_set _ _ _ _ h2]
  apply List.ext_getElem?
  intro i
  rw [List.getElem?_set]
  by_cases hij : j = i
  · subst hij
    rw [if_pos rfl, if_pos (List.getElem?_eq_some_iff.1 h2).1, h2]
  · rw [if_neg hij]
theorem find_stamp {es : Array MapEntry} {clock j : Nat} {e0 : MapEntry} (hst : Stamped es clock) (h2 : es[j]? = some e0) : (es.findIdx? fun e => (e.born : Int) == (e0.born : Int)) = some j := by
  obtain ⟨_, hn, _⟩ := (stamped_iff es clock).1 hst
  have hjl := (Array.getElem?_eq_some_iff.1 h2).1
  have hje := (Array.getElem?_eq_some_iff.1 h2).2
  rw [Array.findIdx?_eq_some_iff_getElem]
  refine ⟨hjl, by simp [hje], fun i hi => ?_⟩
  simp only [beq_iff_eq, Int.natCast_inj]
  intro e1
  have a1 : (es.toList.map (·.born))[i]? = some e0.born := by
    rw [List.getElem?_map, Array.getElem?_toList, Array.getElem?_eq_getElem (by omega)]
    simp [e1]
  have a2 : (es.toList.map (·.born))[j]? = some e0.born := by
    rw [List.getElem?_map, Array.getElem?_toList, h2]; rfl
  have := (List.getElem?_inj (List.getElem?_eq_some_iff.1 a1).1 hn).1 (a1.trans a2.symm)
  omega
theorem MapV.entry_some (h : MapV w b L) (K : Kys P k G) (ht : P.underlying t = some (.map k e)) (hG : ∀ p ∈ L, G p.1) {x v : Value} (hm : (x, v) ∈ L) :
    ∃ n : Int, (Instr.mapEntry t (.map (some b)) x).run P w = .ok (.tuple #[v, .int .i64 n]) w ∧
      ∀ (W : World) (v' : Value), W.heap[b]? = w.heap[b]? → ∃ W', (Instr.entryStore t (.map (some b)) (.int .i64 n) v').run P W = .ok () W' ∧ MapV W' b (L.map (upV x v')) ∧ W.grownBy W' (some b) := by
  obtain ⟨es, clock, hb, rfl, hst⟩ := h
  obtain ⟨_, hn, hk⟩ := (stamped_iff es clock).1 hst
  have hGe : ∀ e ∈ es.toList, G e.key := fun e he => hG _ (List.mem_map.2 ⟨e, he, rfl⟩)
  obtain ⟨e0, he0, h0⟩ := List.mem_map.1 hm
  have hx : e0.key = x := congrArg Prod.fst h0
  have hv : e0.val = v := congrArg Prod.snd h0
  have hgx : G x := hx ▸ hGe e0 he0
  rcases K.find w hgx es.toList hGe with ⟨_, h2⟩ | ⟨j, e1, h1, h2, h3⟩
  · exact absurd hx (h2 e0 he0)
  · have : e1 = e0 := entry_eq_of_key hk (List.mem_of_getElem? h2) he0 (h3.trans hx.symm)
    subst this
    have hj : es[j]? = some e1 := by simpa using h2
    have hsame := modify_same h2
    rw [h3] at hsame
    refine ⟨(e1.born : Int), ?_, fun W v' hW => ?_⟩
    · have hw : ({ w with heap := w.heap.setIfInBounds b (.map es clock) } : World) = w := by
        have : w.heap.setIfInBounds b (.map es clock) = w.heap := by
          apply Array.ext_getElem?
          intro i
          rw [Array.getElem?_setIfInBounds]
          by_cases hi : b = i
          · subst hi
            rw [if_pos rfl]
            split
            · exact hb.symm
            · rename_i hlt; rw [Array.getElem?_eq_none (by omega)] at hb; cases hb
          · rw [if_neg hi]
        rw [this]
      simp [Instr.mapEntry, run_underlying ht, MapKept.run_getObj_map hb, K.check w false hgx, h1, hj, h3, K.stays w hgx, MapKept.run_setObj_map _ hb, Result.andThen, hsame, hw, hv, goInt]
    · have hbW := hW.trans hb
      obtain ⟨k1, k2⟩ := modify_kv (v := v') hst h2 h3
      have hkey : (es.modify j fun e' => { e' with val := v' }) = es.modify j fun e' => { e' with key := x, val := v' } := by
        apply Array.toList_inj.1
        rw [Array.toList_modify, Array.toList_modify, modify_eq_set _ _ _ _ h2, modify_eq_set _ _ _ _ h2, h3]
      refine ⟨setBlock W b (.map (es.modify j fun e' => { e' with val := v' }) clock), ?_, ⟨_, clock, heap_setBlock_same hbW _, by rw [hkey]; exact k1, by rw [hkey]; exact k2⟩, setBlock_grown hbW _⟩
      simp [Instr.entryStore, MapKept.run_getObj_map hbW, asInt, asIntOf, find_stamp hst hj, MapKept.run_setObj_map _ hbW, Result.andThen, setBlock]
theorem MapV.entry_none (h : MapV w b L) (K : Kys P k G) (ht : P.underlying t = some (.map k e)) (hG : ∀ p ∈ L, G p.1) {x z : Value} (hx : G x) (hm : ∀ p ∈ L, p.1 ≠ x) (hz : (zeroValue e).run P w = .ok z w) :
    ∃ (n : Int) (w1 : World), (Instr.mapEntry t (.map (some b)) x).run P w = .ok (.tuple #[z, .int .i64 n]) w1 ∧ w.grownBy w1 (some b) ∧
      ∀ (W : World) (v' : Value), W.heap[b]? = w1.heap[b]? → ∃ W', (Instr.entryStore t (.map (some b)) (.int .i64 n) v').run P W = .ok () W' ∧ MapV W' b (L ++ [(x, v')]) ∧ W.grownBy W' (some b) := by
  obtain ⟨es, clock, hb, rfl, hst⟩ := h
  have hGe : ∀ e ∈ es.toList, G e.key := fun e he => hG _ (List.mem_map.2 ⟨e, he, rfl⟩)
  rcases K.find w hx es.toList hGe with ⟨h1, h2⟩ | ⟨j, e1, h1, h2, h3⟩
  · refine ⟨(clock : Int), setBlock w b (.map (es.push ⟨x, z, clock⟩) (clock + 1)), ?_, setBlock_grown hb _, fun W v' hW => ?_⟩
    · simp [Instr.mapEntry, run_underlying ht, MapKept.run_getObj_map hb, K.check w false hx, h1, hz, MapKept.run_setObj_map _ hb, Result.andThen, setBlock, goInt]
    · have hbW := hW.trans (heap_setBlock_same hb _)
      have hst2 := stamped_push (val := z) hst h2
      have hst3 := stamped_push (val := v') hst h2
      have hj : (es.push ⟨x, z, clock⟩)[es.size]? = some ⟨x, z, clock⟩ := by simp
      have hmod : ((es.push ⟨x, z, clock⟩).modify es.size fun e' => { e' with val := v' }) = es.push ⟨x, v', clock⟩ := by
        apply Array.ext_getElem?
        intro i
        rw [Array.getElem?_modify, Array.getElem?_push, Array.getElem?_push]
        by_cases hi : es.size = i
        · subst hi; simp
        · rw [if_neg hi, if_neg (Ne.symm hi), if_neg (Ne.symm hi)]
      refine ⟨setBlock W b (.map ((es.push ⟨x, z, clock⟩).modify es.size fun e' => { e' with val := v' }) (clock + 1)), ?_, ⟨_, clock + 1, heap_setBlock_same hbW _, by rw [hmod]; simp [kvOf], by rw [hmod]; exact hst3⟩, setBlock_grown hbW _⟩
      have hfs := find_stamp hst2 hj
      simp only at hfs
      simp [Instr.entryStore, MapKept.run_getObj_map hbW, asInt, asIntOf, hfs, MapKept.run_setObj_map _ hbW, Result.andThen, setBlock]
  · exact absurd h3 (hm _ (List.mem_map.2 ⟨e1, List.mem_of_getElem? h2, rfl⟩))

/-! ### range -/
/-- Block r is an iterator over the map b; the entries of T are still to come. -/
def IterV (w : World) (b r : Nat) (L T : List (Value × Value)) : Prop := ∃ es clock since seen c0, w.heap[b]? = some (.map es clock) ∧ es.toList.map kvOf = L ∧ Stamped es clock ∧ w.heap[r]? = some (.mapIter (some b) since seen c0) ∧
  (∀ x ∈ es.toList, x.born < since) ∧ since ≤ c0 ∧ c0 = clock ∧ (es.toList.filter fun e => !seen.contains e.born).map kvOf = T
theorem IterV.map {r : Nat} {T : List (Value × Value)} (h : IterV w b r L T) : MapV w b L := by
  obtain ⟨es, clock, _, _, _, h1, h2, h3, _⟩ := h
  exact ⟨es, clock, h1, h2, h3⟩
theorem IterV.of_blocks {r : Nat} {T : List (Value × Value)} (h : IterV w b r L T) (hb : w'.heap[b]? = w.heap[b]?) (hr : w'.heap[r]? = w.heap[r]?) : IterV w' b r L T := by
  obtain ⟨es, clock, since, seen, c0, h1, h2, h3, h4, h5⟩ := h
  exact ⟨es, clock, since, seen, c0, hb.trans h1, h2, h3, hr.trans h4, h5⟩
theorem IterV.ltr {r : Nat} {T : List (Value × Value)} (h : IterV w b r L T) : r < w.heap.size := by
  obtain ⟨es, clock, since, seen, c0, h1, h2, h3, h4, h5⟩ := h
  exact (Array.getElem?_eq_some_iff.1 h4).1
theorem IterV.ne {r : Nat} {T : List (Value × Value)} (h : IterV w b r L T) : r ≠ b := by
  obtain ⟨es, clock, since, seen, c0, h1, h2, h3, h4, h5⟩ := h
  intro e
  rw [e, h1] at h4
  cases h4
theorem MapV.range (h : MapV w b L) (ht : P.underlying t = some (.map k e)) :
    ∃ o, (Instr.range t (.map (some b))).run P w = .ok (.pointer (some ⟨w.heap.size, 0, none⟩)) (w.alloc o) ∧ IterV (w.alloc o) b w.heap.size L L := by
  obtain ⟨es, clock, hb, hL, hst⟩ := h
  obtain ⟨h1, _, _⟩ := (stamped_iff es clock).1 hst
  have hlt := (Array.getElem?_eq_some_iff.1 hb).1
  refine ⟨.mapIter (some b) clock #[] clock, ?_, es, clock, clock, #[], clock, ?_, hL, hst, (MapKept.heap_alloc w _).1, h1, Nat.le_refl _, rfl, ?_⟩
  · exact run_range_map w t k e b es clock ht hb
  · exact (Below.heap_alloc w _ b hlt).trans hb
  · rw [← hL]
    congr 1
    simp
theorem IterV.next {r : Nat} {T : List (Value × Value)} (h : IterV w b r L T) (ty : TypeId) :
    (T = [] ∧ (Instr.next (.pointer (some ⟨r, 0, none⟩)) false ty).run P w = .ok (.tuple #[.bool false]) w) ∨
    ∃ (A B : List (Value × Value)) (x v : Value) (w' : World), T = A ++ (x, v) :: B ∧ (x, v) ∈ L ∧ (Instr.next (.pointer (some ⟨r, 0, none⟩)) false ty).run P w = .ok (.tuple #[.bool true, x, v]) w' ∧ w.grownBy w' (some r) ∧ IterV w' b r L (A ++ B) ∧
      ∀ W : World, W.heap[b]? = w'.heap[b]? → W.heap[r]? = w'.heap[r]? → (Instr.entry (.pointer (some ⟨r, 0, none⟩))).run P W = .ok (.tuple #[x, v]) W := by
  have hne := h.ne
  obtain ⟨es, clock, since, seen, c0, hb, hL, hst, hr, hold, hsc, hcc, hT⟩ := h
  obtain ⟨_, hn, hk⟩ := (stamped_iff es clock).1 hst
  rcases run_next_at (P := P) w ty r b since c0 seen es clock hr hb hold hsc with ⟨h0, hrun⟩ | ⟨e0, he0, w1, hw1, hrun⟩
  · refine .inl ⟨?_, hrun⟩
    rw [← hT]
    have : (leftOf es seen).toList = [] := by simpa using h0
    unfold leftOf at this
    rw [Array.toList_filter] at this
    rw [this]
    rfl
  · right
    unfold leftOf at he0
    rw [Array.toList_filter] at he0
    obtain ⟨A, B, hAB⟩ := List.append_of_mem he0
    have hmem := (List.mem_filter.1 he0).1
    have hb1 : w1.heap[b]? = some (.map es clock) := by rcases hw1 with rfl | rfl <;> exact hb
    have hr1 : w1.heap[r]? = some (.mapIter (some b) since seen c0) := by rcases hw1 with rfl | rfl <;> exact hr
    have hrlt := (Array.getElem?_eq_some_iff.1 hr1).1
    have hsame : (setBlock w1 r (.mapIter (some b) since (seen.push e0.born) clock)).heap[r]? = some (.mapIter (some b) since (seen.push e0.born) clock) := by
      simp [setBlock, hrlt]
    have hoth : ∀ i, i ≠ r → (setBlock w1 r (.mapIter (some b) since (seen.push e0.born) clock)).heap[i]? = w1.heap[i]? := fun i hi => by
      simp [setBlock, Ne.symm hi]
    have hg : w.grownBy (setBlock w1 r (.mapIter (some b) since (seen.push e0.born) clock)) (some r) := by
      rcases hw1 with rfl | rfl
      · exact ⟨rfl, rfl, rfl, by simp [setBlock], fun i _ hi => hoth i fun e => hi (by rw [e])⟩
      · exact ⟨rfl, rfl, rfl, by show _ ≤ (w.heap.setIfInBounds r _).size; rw [Array.size_setIfInBounds]; exact Nat.le_refl _, fun i _ hi => hoth i fun e => hi (by rw [e])⟩
    refine ⟨A.map kvOf, B.map kvOf, e0.key, e0.val, _, ?_, ?_, hrun, hg, ?_, fun W hWb hWr => ?_⟩
    · rw [← hT, hAB, List.map_append, List.map_cons]; rfl
    · rw [← hL]; exact List.mem_map.2 ⟨e0, hmem, rfl⟩
    · refine ⟨es, clock, since, seen.push e0.born, clock, ?_, hL, hst, hsame, hold, by omega, rfl, ?_⟩
      · rw [hoth b (Ne.symm hne)]; exact hb1
      · have e1 : (es.toList.filter fun e => !(seen.push e0.born).contains e.born) = (es.toList.filter fun e => !seen.contains e.born).filter fun e => !(e.born == e0.born) := by
          rw [List.filter_filter]
          refine List.filter_congr fun x _ => ?_
          by_cases hx : x.born = e0.born
          · simp [hx]
          · simp [hx]
        have hns : ((es.toList.filter fun e => !seen.contains e.born).map (·.born)).Nodup := (List.Sublist.map _ List.filter_sublist).nodup hn
        rw [e1, hAB, List.filter_append, List.filter_cons_of_neg (by simp)]
        rw [hAB, List.map_append, List.map_cons] at hns
        have hd := List.nodup_append.1 hns
        have hA : A.filter (fun e => !(e.born == e0.born)) = A := List.filter_eq_self.2 fun x hx => by
          have := hd.2.2 x.born (List.mem_map.2 ⟨x, hx, rfl⟩) e0.born List.mem_cons_self
          simpa using this
        have hB : B.filter (fun e => !(e.born == e0.born)) = B := List.filter_eq_self.2 fun x hx => by
          have := (List.nodup_cons.1 hd.2.1).1
          have hne2 : x.born ≠ e0.born := fun e => this (e ▸ List.mem_map.2 ⟨x, hx, rfl⟩)
          simpa using hne2
        rw [hA, hB, List.map_append]
    · have q1 := hWr.trans hsame
      have q2 := hWb.trans ((hoth b (Ne.symm hne)).trans hb1)
      exact run_entry_at (P := P) W r b since seen es clock e0 q1 q2 hmem hn
end
end Go.Proofs.YtebdkmlganalaaaGreatDoor

namespace Go.Proofs.YtebdkmlganalaaaGreatDoor

abbrev Rt := ByteArray × Int
abbrev I2 := Int × Int
/-- A procedure, a fact, a matter. -/
structure Pc where
  name : ByteArray
  ss : List ByteArray
  ms : List I2
structure Fc where
  name : ByteArray
  kind : Int
  lo : Int
  hi : Int
structure Mt where
  id : ByteArray
  o : Int
  cs : List Int
  pr : ByteArray
  st : Int
  mv : List Int
  rs : List Rt
  ls : List Lm
def Mt.zero : Mt := ⟨⟨#[]⟩, 0, [], ⟨#[]⟩, 0, [], [], []⟩
def nameB (s : ByteArray) : Bool := nmB s.data.toList

/-! Lists of different things. -/
section
variable {α κ : Type} {key : α → κ} {good : α → Bool} {l : List α}
/-- So far all are good, and different. -/
def difTo (key : α → κ) (good : α → Bool) (l : List α) (k : Nat) : Prop := (l.take k).all good = true ∧ ((l.take k).map key).Nodup
theorem difTo_zero : difTo key good l 0 := ⟨rfl, by simp⟩
theorem take_snoc' {k : Nat} {x : α} (h : l[k]? = some x) : l.take (k + 1) = l.take k ++ [x] := by
  obtain ⟨hk, hx⟩ := List.getElem?_eq_some_iff.1 h
  rw [List.take_succ_eq_append_getElem hk, hx]
theorem difTo_next {k : Nat} {x : α} (h : difTo key good l k) (hx : l[k]? = some x) (hg : good x = true) (hn : key x ∉ (l.take k).map key) : difTo key good l (k + 1) := by
  unfold difTo
  rw [take_snoc' hx]
  refine ⟨by rw [List.all_append, h.1]; simp [hg], ?_⟩
  rw [List.map_append, List.nodup_append]
  refine ⟨h.2, by simp, fun a ha b hb => ?_⟩
  have : b = key x := by simpa using hb
  subst this
  rintro rfl
  exact hn ha
variable [DecidableEq κ]
/-- All are good, their keys are different, there are at most 60. -/
def difB (key : α → κ) (good : α → Bool) (l : List α) : Bool := l.all good && (decide ((l.map key).Nodup) && decide (l.length ≤ 60))
theorem difB_iff : difB key good l = true ↔ (∀ x ∈ l, good x = true) ∧ (l.map key).Nodup ∧ l.length ≤ 60 := by
  unfold difB
  simp only [Bool.and_eq_true, decide_eq_true_eq, List.all_eq_true]
theorem difB_bad {k : Nat} {x : α} (hx : l[k]? = some x) (hg : good x = false) : difB key good l = false := by
  have : l.all good = false := by rw [List.all_eq_false]; exact ⟨x, List.mem_of_getElem? hx, by rw [hg]; simp⟩
  unfold difB
  rw [this, Bool.false_and]
theorem difB_twice {k : Nat} {x : α} (hx : l[k]? = some x) (hn : key x ∈ (l.take k).map key) : difB key good l = false := by
  have : ¬ (l.map key).Nodup := fun h => by
    have e : l = (l.take k ++ [x]) ++ l.drop (k + 1) := by rw [← take_snoc' hx, List.take_append_drop]
    rw [e, List.map_append, List.nodup_append] at h
    have h2 := h.1
    rw [List.map_append, List.nodup_append] at h2
    exact h2.2.2 _ hn _ (by simp) rfl
  unfold difB
  rw [decide_eq_false this, Bool.false_and, Bool.and_false]
theorem difB_end (h : difTo key good l l.length) : difB key good l = decide (l.length ≤ 60) := by
  obtain ⟨h1, h2⟩ := h
  rw [List.take_length] at h1 h2
  unfold difB
  rw [h1, decide_eq_true h2, Bool.true_and, Bool.true_and]
end

/-! Procedures, domains. -/
def mvB (n : Nat) (m : I2) : Bool := decide (m.1 ≠ m.2 ∧ 0 ≤ min m.1 m.2 ∧ max m.1 m.2 < (n : Int))
def pcB (p : Pc) : Bool := nameB p.name && (decide (0 < p.ss.length) && (difB id nameB p.ss && difB id (mvB p.ss.length) p.ms))
def fcB (f : Fc) : Bool := (decide (f.kind = 1 ∧ f.lo = 0 ∧ f.hi = 1) || decide ((f.kind = 2 ∨ f.kind = 3) ∧ 0 ≤ f.lo ∧ f.lo ≤ f.hi ∧ f.hi ≤ 1000000)) && nameB f.name
def dmB (d : List Fc) : Bool := difB (·.name) fcB d
def inB (f : Fc) (n : Int) : Bool := decide (f.lo ≤ n ∧ n ≤ f.hi)
def fitB (d : List Fc) (c : List Int) : Bool := dmB d && (decide (c.length = d.length) && (d.zip c).all fun x => inB x.1 x.2)

/-! Matters. -/
/-- Days that do not decrease. -/
def upB : Int → List Int → Bool
  | _, [] => true
  | a, x :: xs => decide (a ≤ x ∧ x ≤ 1000000) && upB x xs
def rtB (o : Int) (r : Rt) : Bool := nameB r.1 && (decide (o ≤ r.2) && isB r.2)
def fmB (m : Mt) : Bool := nameB m.id && (nameB m.pr && (isB m.o && (decide (0 ≤ m.st ∧ m.st < 60) && (m.cs.all isB && (decide (m.cs.length ≤ 60) && (upB m.o m.mv && (decide (m.mv.length ≤ 60) && (difB (·.1) (rtB m.o) m.rs && difB (·.id) prB m.ls))))))))
theorem fmB_iff {m : Mt} : fmB m = true ↔ nameB m.id = true ∧ nameB m.pr = true ∧ isB m.o = true ∧ (0 ≤ m.st ∧ m.st < 60) ∧ (∀ x ∈ m.cs, isB x = true) ∧ m.cs.length ≤ 60 ∧ upB m.o m.mv = true ∧ m.mv.length ≤ 60 ∧ difB (·.1) (rtB m.o) m.rs = true ∧ difB (·.id) prB m.ls = true := by
  unfold fmB
  simp only [Bool.and_eq_true, decide_eq_true_eq, List.all_eq_true]
def vldB (m : Mt) (p : Pc) (d : List Fc) : Bool := fmB m && (pcB p && (dmB d && (decide (m.pr = p.name) && (decide (m.st < (p.ss.length : Int)) && fitB d m.cs))))
theorem vldB_iff {m : Mt} {p : Pc} {d : List Fc} : vldB m p d = true ↔ fmB m = true ∧ pcB p = true ∧ dmB d = true ∧ m.pr = p.name ∧ m.st < (p.ss.length : Int) ∧ fitB d m.cs = true := by
  unfold vldB
  simp only [Bool.and_eq_true, decide_eq_true_eq]
def hasB (l : List Rt) (n : ByteArray) (day : Int) : Bool := l.any fun r => decide (r.1 = n) && decide (r.2 ≤ day)
def lastI (o : Int) (l : List Int) : Int := l.getLast?.getD o
/-- The error of a move. -/
def moveE (m : Mt) (p : Pc) (s day : Int) : Int :=
  if !(fmB m && (pcB p && (decide (m.pr = p.name) && (decide (m.st < (p.ss.length : Int)) && isB day)))) then 1
  else if s < 0 ∨ (p.ss.length : Int) ≤ s then 11
  else if (m.st, s) ∉ p.ms then 12
  else if day < m.o ∨ day < lastI m.o m.mv then 24
  else if 60 ≤ m.mv.length then 2
  else 0
def moveM (m : Mt) (p : Pc) (s day : Int) : Mt := if moveE m p s day = 0 then { m with st := s, mv := m.mv ++ [day] } else Mt.zero
/-- The error of a right that is granted. -/
def grantE (m : Mt) (n : ByteArray) (day : Int) : Int :=
  if !(fmB m && (nameB n && isB day)) then 1
  else if hasB m.rs n 1000000 then 9
  else if day < m.o then 24
  else if 60 ≤ m.rs.length then 2
  else 0
def grantM (m : Mt) (n : ByteArray) (day : Int) : Mt := if grantE m n day = 0 then { m with rs := m.rs ++ [(n, day)] } else Mt.zero

/-! Days in order. -/
def srtB : List Int → Bool
  | [] => true
  | x :: xs => (match xs with | [] => true | y :: _ => decide (x ≤ y)) && srtB xs
theorem upB_srt : ∀ (l : List Int) (a : Int), upB a l = true ↔ srtB l = true ∧ (l = [] ∨ (∃ x, l.head? = some x ∧ a ≤ x) ∧ ∃ y, l.getLast? = some y ∧ y ≤ 1000000)
  | [], a => by simp [upB, srtB]
  | [x], a => by simp [upB, srtB]
  | x :: y :: xs, a => by
    have ih := upB_srt (y :: xs) x
    have e1 : upB a (x :: y :: xs) = (decide (a ≤ x ∧ x ≤ 1000000) && upB x (y :: xs)) := rfl
    have e2 : srtB (x :: y :: xs) = (decide (x ≤ y) && srtB (y :: xs)) := rfl
    have up2 : srtB (y :: xs) = true → ∀ z, (y :: xs).getLast? = some z → y ≤ z := by
      have key : ∀ (l : List Int) (u : Int), srtB (u :: l) = true → ∀ z, (u :: l).getLast? = some z → u ≤ z := by
        intro l
        induction l with
        | nil => intro u _ z hz; simp at hz; omega
        | cons v l ih2 =>
          intro u hs z hz
          have e : srtB (u :: v :: l) = (decide (u ≤ v) && srtB (v :: l)) := rfl
          rw [e, Bool.and_eq_true, decide_eq_true_eq] at hs
          have := ih2 v hs.2 z (by rw [List.getLast?_cons_cons] at hz; exact hz)
          omega
      exact key xs y
    rw [e1, e2, Bool.and_eq_true, Bool.and_eq_true, decide_eq_true_eq, decide_eq_true_eq, ih]
    simp only [reduceCtorEq, false_or, List.head?_cons, Option.some.injEq, exists_eq_left', List.getLast?_cons_cons]
    constructor
    · rintro ⟨⟨h1, h2⟩, h3, h4, z, h5, h6⟩
      exact ⟨⟨h4, h3⟩, h1, z, h5, h6⟩
    · rintro ⟨⟨h4, h3⟩, h1, z, h5, h6⟩
      have := up2 h3 z h5
      exact ⟨⟨h1, by omega⟩, h3, h4, z, h5, h6⟩
theorem upB_app : ∀ (l : List Int) (a d : Int), upB a (l ++ [d]) = (upB a l && decide (lastI a l ≤ d ∧ d ≤ 1000000))
  | [], a, d => by simp only [upB, lastI, List.nil_append, List.getLast?_nil, Option.getD_none, Bool.and_true, Bool.true_and]; exact decide_eq_decide.2 Iff.rfl
  | x :: xs, a, d => by
    show (decide (a ≤ x ∧ x ≤ 1000000) && upB x (xs ++ [d])) = ((decide (a ≤ x ∧ x ≤ 1000000) && upB x xs) && _)
    rw [upB_app xs x d, Bool.and_assoc]
    have : lastI a (x :: xs) = lastI x xs := by
      unfold lastI
      cases xs with
      | nil => rfl
      | cons y ys =>
        rw [List.getLast?_cons_cons]
        cases h : (y :: ys).getLast? with
        | none => simp at h
        | some z => rfl
    rw [this]
end Go.Proofs.YtebdkmlganalaaaGreatDoor
