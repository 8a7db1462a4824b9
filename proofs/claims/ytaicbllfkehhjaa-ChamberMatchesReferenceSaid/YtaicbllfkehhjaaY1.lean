/- Part 1 of what the laws of this seat stand on: Ed, Ee, Bu, Ef. -/
import Derived.Test.YtaicbllfkehhjaaY0
import Derived.Maps.Own
import Derived.Maps.RangeRun
import Derived.MapKept
import Derived.Maps.AppendAt
import Derived.Deep.DeepCutAuto
import Derived.BigQuiet

/- Maps as lists of entries: laws on the run of each operation. Over any program. -/
namespace Go.Proofs.Ytaicbllfkehhjaa
open Go.RowKit Go.MapKept Go.ChangeMaps

/-- Keys of one type, those with G. -/
structure Kys (P : Program) (k : TypeId) (G : Value → Prop) : Prop where
  check : ∀ (w : World) (em : Bool) {v : Value}, G v → (Instr.checkKey em 10000 k v).run P w = .ok () w
  find : ∀ (w : World) {x : Value}, G x → ∀ es : List MapEntry, (∀ e ∈ es, G e.key) →
    ((Instr.findKey k x es).run P w = .ok none w ∧ ∀ e ∈ es, e.key ≠ x) ∨ ∃ (j : Nat) (e : MapEntry), (Instr.findKey k x es).run P w = .ok (some (j, e.val)) w ∧ es[j]? = some e ∧ e.key = x
  stays : ∀ (w : World) {v : Value}, G v → (Instr.keyThatStays v v).run P w = .ok v w

def kvOf (e : MapEntry) : Value × Value := (e.key, e.val)
/-- Block b is a map with these entries, in the order in which they came. -/
def MapV (w : World) (b : Nat) (L : List (Value × Value)) : Prop := ∃ es clock, w.heap[b]? = some (.map es clock) ∧ es.toList.map kvOf = L ∧ Stamped es clock
open Classical in
noncomputable def upV (x v : Value) (p : Value × Value) : Value × Value := if p.1 = x then (x, v) else p

theorem upV_pos {x v : Value} {p : Value × Value} (h : p.1 = x) : upV x v p = (x, v) := if_pos h
theorem upV_neg {x v : Value} {p : Value × Value} (h : ¬ p.1 = x) : upV x v p = p := if_neg h
section
variable {P : Program} {k e t : TypeId} {G : Value → Prop} {w w' : World} {b : Nat} {L : List (Value × Value)}
theorem MapV.lt (h : MapV w b L) : b < w.heap.size := by
  obtain ⟨es, clock, hb, _⟩ := h
  exact (Array.getElem?_eq_some_iff.1 hb).1
theorem MapV.of_block (h : MapV w b L) (hb : w'.heap[b]? = w.heap[b]?) : MapV w' b L := by
  obtain ⟨es, clock, h1, h2⟩ := h
  exact ⟨es, clock, hb.trans h1, h2⟩
theorem MapV.below {B : Nat} (h : MapV w b L) (hb : Below B w w') (hlt : b < B) : MapV w' b L := h.of_block (hb.block b hlt)
theorem MapV.grown {row : Option Nat} (h : MapV w b L) (hg : w.grownBy w' row) (hne : some b ≠ row) : MapV w' b L := h.of_block (hg.block b h.lt hne)
theorem MapV.alloc (h : MapV w b L) (o : Obj) : MapV (w.alloc o) b L := h.grown (World.grownBy_alloc w o none) (by simp)
theorem MapV.made (w : World) : MapV (w.alloc (.map #[] 0)) w.heap.size [] := ⟨#[], 0, (MapKept.heap_alloc w _).1, by simp, stamped_empty 0⟩
theorem setBlock_grown {es : Array MapEntry} {clock : Nat} (hb : w.heap[b]? = some (.map es clock)) (o : Obj) : w.grownBy (setBlock w b o) (some b) :=
  ⟨rfl, rfl, rfl, by simp [setBlock], fun i _ hi => heap_setBlock_other hb _ (fun e => hi (by rw [e]))⟩

theorem MapV.look_some (h : MapV w b L) (K : Kys P k G) (ht : P.underlying t = some (.map k e)) (hG : ∀ p ∈ L, G p.1) {x v : Value} (hm : (x, v) ∈ L) (c : Bool) :
    (Instr.lookup t (.map (some b)) x c).run P w = .ok (if c then .tuple #[v, .bool true] else v) w := by
  obtain ⟨es, clock, hb, rfl, hst⟩ := h
  obtain ⟨_, hn, hk⟩ := (stamped_iff es clock).1 hst
  have hGe : ∀ e ∈ es.toList, G e.key := fun e he => hG _ (List.mem_map.2 ⟨e, he, rfl⟩)
  obtain ⟨e0, he0, h0⟩ := List.mem_map.1 hm
  have hx : e0.key = x := congrArg Prod.fst h0
  have hv : e0.val = v := congrArg Prod.snd h0
  have hgx : G x := hx ▸ hGe e0 he0
  rcases K.find w hgx es.toList hGe with ⟨_, h2⟩ | ⟨j, e1, h1, h2, h3⟩
  · exact absurd hx (h2 e0 he0)
  · have : e1 = e0 := entry_eq_of_key hk (List.mem_of_getElem? h2) he0 (h3.trans hx.symm)
    subst this
    simp [Instr.lookup, run_underlying ht, MapKept.run_getObj_map hb, K.check w _ hgx, h1, Result.andThen, hv]
theorem MapV.look_none (h : MapV w b L) (K : Kys P k G) (ht : P.underlying t = some (.map k e)) (hG : ∀ p ∈ L, G p.1) {x z : Value} (hx : G x) (hm : ∀ p ∈ L, p.1 ≠ x) (hz : (zeroValue e).run P w = .ok z w) (c : Bool) :
    (Instr.lookup t (.map (some b)) x c).run P w = .ok (if c then .tuple #[z, .bool false] else z) w := by
  obtain ⟨es, clock, hb, rfl, hst⟩ := h
  have hGe : ∀ e ∈ es.toList, G e.key := fun e he => hG _ (List.mem_map.2 ⟨e, he, rfl⟩)
  rcases K.find w hx es.toList hGe with ⟨h1, _⟩ | ⟨j, e1, h1, h2, h3⟩
  · simp [Instr.lookup, run_underlying ht, MapKept.run_getObj_map hb, K.check w _ hx, h1, hz, Result.andThen]
  · exact absurd h3 (hm _ (List.mem_map.2 ⟨e1, List.mem_of_getElem? h2, rfl⟩))

theorem modify_kv {es : Array MapEntry} {clock j : Nat} {e0 : MapEntry} {x v : Value} (hst : Stamped es clock) (h2 : es.toList[j]? = some e0) (h3 : e0.key = x) :
    (es.modify j fun e' => { e' with key := x, val := v }).toList.map kvOf = (es.toList.map kvOf).map (upV x v) ∧ Stamped (es.modify j fun e' => { e' with key := x, val := v }) clock := by
  have hj : es[j]? = some e0 := by simpa using h2
  obtain ⟨_, _, hk⟩ := (stamped_iff es clock).1 hst
  refine ⟨?_, stamped_modify hst _ _ (fun _ _ => rfl) (fun e' _ he' => by rw [hj] at he'; cases he'; exact h3.symm)⟩
  rw [Array.toList_modify, modify_eq_set _ _ _ _ h2]
  apply List.ext_getElem?
  intro i
  rw [List.getElem?_map, List.getElem?_map, List.getElem?_map, List.getElem?_set]
  by_cases hij : j = i
  · subst hij
    have hlt := (List.getElem?_eq_some_iff.1 h2).1
    rw [if_pos rfl, if_pos hlt, h2]
    simp [kvOf, upV, h3]
  · rw [if_neg hij]
    cases hi : es.toList[i]? with
    | none => rfl
    | some y =>
      have hne : y.key ≠ x := fun e1 => by
        have hy := List.mem_of_getElem? hi
        have h0 := List.mem_of_getElem? h2
        have := entry_eq_of_key hk hy h0 (e1.trans h3.symm)
        subst this
        have hnd : es.toList.Nodup := hk.imp fun h e => h (by rw [e])
        exact hij ((List.getElem?_inj (List.getElem?_eq_some_iff.1 h2).1 hnd).1 (h2.trans hi.symm))
      simp [kvOf, upV, hne]
theorem MapV.upd_some (h : MapV w b L) (K : Kys P k G) (ht : P.underlying t = some (.map k e)) (hG : ∀ p ∈ L, G p.1) {x v0 : Value} (hm : (x, v0) ∈ L) (v : Value) :
    ∃ w', (Instr.mapUpdate t (.map (some b)) x v).run P w = .ok () w' ∧ MapV w' b (L.map (upV x v)) ∧ w.grownBy w' (some b) := by
  obtain ⟨es, clock, hb, rfl, hst⟩ := h
  have hGe : ∀ e ∈ es.toList, G e.key := fun e he => hG _ (List.mem_map.2 ⟨e, he, rfl⟩)
  obtain ⟨e0, he0, h0⟩ := List.mem_map.1 hm
  have hx : e0.key = x := congrArg Prod.fst h0
  have hgx : G x := hx ▸ hGe e0 he0
  rcases K.find w hgx es.toList hGe with ⟨_, h2⟩ | ⟨j, e1, h1, h2, h3⟩
  · exact absurd hx (h2 e0 he0)
  · have hj : es[j]? = some e1 := by simpa using h2
    obtain ⟨k1, k2⟩ := modify_kv (v := v) hst h2 h3
    refine ⟨setBlock w b (.map (es.modify j fun e' => { e' with key := x, val := v }) clock), ?_, ⟨_, clock, heap_setBlock_same hb _, k1, k2⟩, setBlock_grown hb _⟩
    simp [Instr.mapUpdate, run_underlying ht, MapKept.run_getObj_map hb, K.check w false hgx, h1, hj, h3, K.stays w hgx, MapKept.run_setObj_map _ hb, Result.andThen, setBlock]
theorem MapV.upd_none (h : MapV w b L) (K : Kys P k G) (ht : P.underlying t = some (.map k e)) (hG : ∀ p ∈ L, G p.1) {x : Value} (hx : G x) (hm : ∀ p ∈ L, p.1 ≠ x) (v : Value) :
    ∃ w', (Instr.mapUpdate t (.map (some b)) x v).run P w = .ok () w' ∧ MapV w' b (L ++ [(x, v)]) ∧ w.grownBy w' (some b) := by
  obtain ⟨es, clock, hb, rfl, hst⟩ := h
  have hGe : ∀ e ∈ es.toList, G e.key := fun e he => hG _ (List.mem_map.2 ⟨e, he, rfl⟩)
  rcases K.find w hx es.toList hGe with ⟨h1, h2⟩ | ⟨j, e1, h1, h2, h3⟩
  · refine ⟨setBlock w b (.map (es.push ⟨x, v, clock⟩) (clock + 1)), ?_, ⟨_, _, heap_setBlock_same hb _, by simp [kvOf], stamped_push hst h2⟩, setBlock_grown hb _⟩
    simp [Instr.mapUpdate, run_underlying ht, MapKept.run_getObj_map hb, K.check w false hx, h1, MapKept.run_setObj_map _ hb, Result.andThen, setBlock]
  · exact absurd h3 (hm _ (List.mem_map.2 ⟨e1, List.mem_of_getElem? h2, rfl⟩))

/-! ### m[k] = f(m[k]) -/
theorem modify_same {es : Array MapEntry} {j : Nat} {e0 : MapEntry} (h2 : es.toList[j]? = some e0) : (es.modify j fun e' => { e' with key := e0.key }) = es := by
  apply Array.toList_inj.1
  rw [Array.toList_modify, modify_eq_set _ _ _ _ h2]
  apply List.ext_getElem?
  intro i
  rw [List.getElem?_set]
  by_cases hij : j = i
  · subst hij
    rw [if_pos rfl, if_pos (List.getElem?_eq_some_iff.1 h2).1, h2]
  · rw [if_neg hij]
theorem find_stamp {es : Array MapEntry} {clock j : Nat} {e0 : MapEntry} (hst : Stamped es clock) (h2 : es[j]? = some e0) : (es.findIdx? fun e => (e.born : Int) == (e0.born : Int)) = some j := by
  obtain ⟨_, hn, _⟩ := (stamped_iff es clock).1 hst
  have hjl := (Array.getElem?_eq_some_iff.1 h2).1
  have hje := (Array.getElem?_eq_some_iff.1 h2).2
  rw [Array.findIdx?_eq_some_iff_getElem]
  refine ⟨hjl, by simp [hje], fun i hi => ?_⟩
  simp only [beq_iff_eq, Int.natCast_inj]
  intro e1
  have a1 : (es.toList.map (·.born))[i]? = some e0.born := by
    rw [List.getElem?_map, Array.getElem?_toList, Array.getElem?_eq_getElem (by omega)]
    simp [e1]
  have a2 : (es.toList.map (·.born))[j]? = some e0.born := by
    rw [List.getElem?_map, Array.getElem?_toList, h2]; rfl
  have := (List.getElem?_inj (List.getElem?_eq_some_iff.1 a1).1 hn).1 (a1.trans a2.symm)
  omega
theorem MapV.entry_some (h : MapV w b L) (K : Kys P k G) (ht : P.underlying t = some (.map k e)) (hG : ∀ p ∈ L, G p.1) {x v : Value} (hm : (x, v) ∈ L) :
    ∃ n : Int, (Instr.mapEntry t (.map (some b)) x).run P w = .ok (.tuple #[v, .int .i64 n]) w ∧
      ∀ (W : World) (v' : Value), W.heap[b]? = w.heap[b]? → ∃ W', (Instr.entryStore t (.map (some b)) (.int .i64 n) v').run P W = .ok () W' ∧ MapV W' b (L.map (upV x v')) ∧ W.grownBy W' (some b) := by
  obtain ⟨es, clock, hb, rfl, hst⟩ := h
  obtain ⟨_, hn, hk⟩ := (stamped_iff es clock).1 hst
  have hGe : ∀ e ∈ es.toList, G e.key := fun e he => hG _ (List.mem_map.2 ⟨e, he, rfl⟩)
  obtain ⟨e0, he0, h0⟩ := List.mem_map.1 hm
  have hx : e0.key = x := congrArg Prod.fst h0
  have hv : e0.val = v := congrArg Prod.snd h0
  have hgx : G x := hx ▸ hGe e0 he0
  rcases K.find w hgx es.toList hGe with ⟨_, h2⟩ | ⟨j, e1, h1, h2, h3⟩
  · exact absurd hx (h2 e0 he0)
  · have : e1 = e0 := entry_eq_of_key hk (List.mem_of_getElem? h2) he0 (h3.trans hx.symm)
    subst this
    have hj : es[j]? = some e1 := by simpa using h2
    have hsame := modify_same h2
    rw [h3] at hsame
    refine ⟨(e1.born : Int), ?_, fun W v' hW => ?_⟩
    · have hw : ({ w with heap := w.heap.setIfInBounds b (.map es clock) } : World) = w := by
        have : w.heap.setIfInBounds b (.map es clock) = w.heap := by
          apply Array.ext_getElem?
          intro i
          rw [Array.getElem?_setIfInBounds]
          by_cases hi : b = i
          · subst hi
            rw [if_pos rfl]
            split
            · exact hb.symm
            · rename_i hlt; rw [Array.getElem?_eq_none (by omega)] at hb; cases hb
          · rw [if_neg hi]
        rw [this]
      simp [Instr.mapEntry, run_underlying ht, MapKept.run_getObj_map hb, K.check w false hgx, h1, hj, h3, K.stays w hgx, MapKept.run_setObj_map _ hb, Result.andThen, hsame, hw, hv, goInt]
    · have hbW := hW.trans hb
      obtain ⟨k1, k2⟩ := modify_kv (v := v') hst h2 h3
      have hkey : (es.modify j fun e' => { e' with val := v' }) = es.modify j fun e' => { e' with key := x, val := v' } := by
        apply Array.toList_inj.1
        rw [Array.toList_modify, Array.toList_modify, modify_eq_set _ _ _ _ h2, modify_eq_set _ _ _ _ h2, h3]
      refine ⟨setBlock W b (.map (es.modify j fun e' => { e' with val := v' }) clock), ?_, ⟨_, clock, heap_setBlock_same hbW _, by rw [hkey]; exact k1, by rw [hkey]; exact k2⟩, setBlock_grown hbW _⟩
      simp [Instr.entryStore, MapKept.run_getObj_map hbW, asInt, asIntOf, find_stamp hst hj, MapKept.run_setObj_map _ hbW, Result.andThen, setBlock]
theorem MapV.entry_none (h : MapV w b L) (K : Kys P k G) (ht : P.underlying t = some (.map k e)) (hG : ∀ p ∈ L, G p.1) {x z : Value} (hx : G x) (hm : ∀ p ∈ L, p.1 ≠ x) (hz : (zeroValue e).run P w = .ok z w) :
    ∃ (n : Int) (w1 : World), (Instr.mapEntry t (.map (some b)) x).run P w = .ok (.tuple #[z, .int .i64 n]) w1 ∧ w.grownBy w1 (some b) ∧
      ∀ (W : World) (v' : Value), W.heap[b]? = w1.heap[b]? → ∃ W', (Instr.entryStore t (.map (some b)) (.int .i64 n) v').run P W = .ok () W' ∧ MapV W' b (L ++ [(x, v')]) ∧ W.grownBy W' (some b) := by
  obtain ⟨es, clock, hb, rfl, hst⟩ := h
  have hGe : ∀ e ∈ es.toList, G e.key := fun e he => hG _ (List.mem_map.2 ⟨e, he, rfl⟩)
  rcases K.find w hx es.toList hGe with ⟨h1, h2⟩ | ⟨j, e1, h1, h2, h3⟩
  · refine ⟨(clock : Int), setBlock w b (.map (es.push ⟨x, z, clock⟩) (clock + 1)), ?_, setBlock_grown hb _, fun W v' hW => ?_⟩
    · simp [Instr.mapEntry, run_underlying ht, MapKept.run_getObj_map hb, K.check w false hx, h1, hz, MapKept.run_setObj_map _ hb, Result.andThen, setBlock, goInt]
    · have hbW := hW.trans (heap_setBlock_same hb _)
      have hst2 := stamped_push (val := z) hst h2
      have hst3 := stamped_push (val := v') hst h2
      have hj : (es.push ⟨x, z, clock⟩)[es.size]? = some ⟨x, z, clock⟩ := by simp
      have hmod : ((es.push ⟨x, z, clock⟩).modify es.size fun e' => { e' with val := v' }) = es.push ⟨x, v', clock⟩ := by
        apply Array.ext_getElem?
        intro i
        rw [Array.getElem?_modify, Array.getElem?_push, Array.getElem?_push]
        by_cases hi : es.size = i
        · subst hi; simp
        · rw [if_neg hi, if_neg (Ne.symm hi), if_neg (Ne.symm hi)]
      refine ⟨setBlock W b (.map ((es.push ⟨x, z, clock⟩).modify es.size fun e' => { e' with val := v' }) (clock + 1)), ?_, ⟨_, clock + 1, heap_setBlock_same hbW _, by rw [hmod]; simp [kvOf], by rw [hmod]; exact hst3⟩, setBlock_grown hbW _⟩
      have hfs := find_stamp hst2 hj
      simp only at hfs
      simp [Instr.entryStore, MapKept.run_getObj_map hbW, asInt, asIntOf, hfs, MapKept.run_setObj_map _ hbW, Result.andThen, setBlock]
  · exact absurd h3 (hm _ (List.mem_map.2 ⟨e1, List.mem_of_getElem? h2, rfl⟩))

/-! ### range -/
/-- Block r is an iterator over the map b; the entries of T are still to come. -/
def IterV (w : World) (b r : Nat) (L T : List (Value × Value)) : Prop := ∃ es clock since seen c0, w.heap[b]? = some (.map es clock) ∧ es.toList.map kvOf = L ∧ Stamped es clock ∧ w.heap[r]? = some (.mapIter (some b) since seen c0) ∧
  (∀ x ∈ es.toList, x.born < since) ∧ since ≤ c0 ∧ c0 = clock ∧ (es.toList.filter fun e => !seen.contains e.born).map kvOf = T
theorem IterV.map {r : Nat} {T : List (Value × Value)} (h : IterV w b r L T) : MapV w b L := by
  obtain ⟨es, clock, _, _, _, h1, h2, h3, _⟩ := h
  exact ⟨es, clock, h1, h2, h3⟩
theorem IterV.of_blocks {r : Nat} {T : List (Value × Value)} (h : IterV w b r L T) (hb : w'.heap[b]? = w.heap[b]?) (hr : w'.heap[r]? = w.heap[r]?) : IterV w' b r L T := by
  obtain ⟨es, clock, since, seen, c0, h1, h2, h3, h4, h5⟩ := h
  exact ⟨es, clock, since, seen, c0, hb.trans h1, h2, h3, hr.trans h4, h5⟩
theorem IterV.ltr {r : Nat} {T : List (Value × Value)} (h : IterV w b r L T) : r < w.heap.size := by
  obtain ⟨es, clock, since, seen, c0, h1, h2, h3, h4, h5⟩ := h
  exact (Array.getElem?_eq_some_iff.1 h4).1
theorem IterV.ne {r : Nat} {T : List (Value × Value)} (h : IterV w b r L T) : r ≠ b := by
  obtain ⟨es, clock, since, seen, c0, h1, h2, h3, h4, h5⟩ := h
  intro e
  rw [e, h1] at h4
  cases h4
theorem MapV.range (h : MapV w b L) (ht : P.underlying t = some (.map k e)) :
    ∃ o, (Instr.range t (.map (some b))).run P w = .ok (.pointer (some ⟨w.heap.size, 0, none⟩)) (w.alloc o) ∧ IterV (w.alloc o) b w.heap.size L L := by
  obtain ⟨es, clock, hb, hL, hst⟩ := h
  obtain ⟨h1, _, _⟩ := (stamped_iff es clock).1 hst
  have hlt := (Array.getElem?_eq_some_iff.1 hb).1
  refine ⟨.mapIter (some b) clock #[] clock, ?_, es, clock, clock, #[], clock, ?_, hL, hst, (MapKept.heap_alloc w _).1, h1, Nat.le_refl _, rfl, ?_⟩
  · exact run_range_map w t k e b es clock ht hb
  · exact (Below.heap_alloc w _ b hlt).trans hb
  · rw [← hL]
    congr 1
    simp
theorem IterV.next {r : Nat} {T : List (Value × Value)} (h : IterV w b r L T) (ty : TypeId) :
    (T = [] ∧ (Instr.next (.pointer (some ⟨r, 0, none⟩)) false ty).run P w = .ok (.tuple #[.bool false]) w) ∨
    ∃ (A B : List (Value × Value)) (x v : Value) (w' : World), T = A ++ (x, v) :: B ∧ (x, v) ∈ L ∧ (Instr.next (.pointer (some ⟨r, 0, none⟩)) false ty).run P w = .ok (.tuple #[.bool true, x, v]) w' ∧ w.grownBy w' (some r) ∧ IterV w' b r L (A ++ B) ∧
      ∀ W : World, W.heap[b]? = w'.heap[b]? → W.heap[r]? = w'.heap[r]? → (Instr.entry (.pointer (some ⟨r, 0, none⟩))).run P W = .ok (.tuple #[x, v]) W := by
  have hne := h.ne
  obtain ⟨es, clock, since, seen, c0, hb, hL, hst, hr, hold, hsc, hcc, hT⟩ := h
  obtain ⟨_, hn, hk⟩ := (stamped_iff es clock).1 hst
  rcases run_next_at (P := P) w ty r b since c0 seen es clock hr hb hold hsc with ⟨h0, hrun⟩ | ⟨e0, he0, w1, hw1, hrun⟩
  · refine .inl ⟨?_, hrun⟩
    rw [← hT]
    have : (leftOf es seen).toList = [] := by simpa using h0
    unfold leftOf at this
    rw [Array.toList_filter] at this
    rw [this]
    rfl
  · right
    unfold leftOf at he0
    rw [Array.toList_filter] at he0
    obtain ⟨A, B, hAB⟩ := List.append_of_mem he0
    have hmem := (List.mem_filter.1 he0).1
    have hb1 : w1.heap[b]? = some (.map es clock) := by rcases hw1 with rfl | rfl <;> exact hb
    have hr1 : w1.heap[r]? = some (.mapIter (some b) since seen c0) := by rcases hw1 with rfl | rfl <;> exact hr
    have hrlt := (Array.getElem?_eq_some_iff.1 hr1).1
    have hsame : (setBlock w1 r (.mapIter (some b) since (seen.push e0.born) clock)).heap[r]? = some (.mapIter (some b) since (seen.push e0.born) clock) := by
      simp [setBlock, hrlt]
    have hoth : ∀ i, i ≠ r → (setBlock w1 r (.mapIter (some b) since (seen.push e0.born) clock)).heap[i]? = w1.heap[i]? := fun i hi => by
      simp [setBlock, Ne.symm hi]
    have hg : w.grownBy (setBlock w1 r (.mapIter (some b) since (seen.push e0.born) clock)) (some r) := by
      rcases hw1 with rfl | rfl
      · exact ⟨rfl, rfl, rfl, by simp [setBlock], fun i _ hi => hoth i fun e => hi (by rw [e])⟩
      · exact ⟨rfl, rfl, rfl, by show _ ≤ (w.heap.setIfInBounds r _).size; rw [Array.size_setIfInBounds]; exact Nat.le_refl _, fun i _ hi => hoth i fun e => hi (by rw [e])⟩
    refine ⟨A.map kvOf, B.map kvOf, e0.key, e0.val, _, ?_, ?_, hrun, hg, ?_, fun W hWb hWr => ?_⟩
    · rw [← hT, hAB, List.map_append, List.map_cons]; rfl
    · rw [← hL]; exact List.mem_map.2 ⟨e0, hmem, rfl⟩
    · refine ⟨es, clock, since, seen.push e0.born, clock, ?_, hL, hst, hsame, hold, by omega, rfl, ?_⟩
      · rw [hoth b (Ne.symm hne)]; exact hb1
      · have e1 : (es.toList.filter fun e => !(seen.push e0.born).contains e.born) = (es.toList.filter fun e => !seen.contains e.born).filter fun e => !(e.born == e0.born) := by
          rw [List.filter_filter]
          refine List.filter_congr fun x _ => ?_
          by_cases hx : x.born = e0.born
          · simp [hx]
          · simp [hx]
        have hns : ((es.toList.filter fun e => !seen.contains e.born).map (·.born)).Nodup := (List.Sublist.map _ List.filter_sublist).nodup hn
        rw [e1, hAB, List.filter_append, List.filter_cons_of_neg (by simp)]
        rw [hAB, List.map_append, List.map_cons] at hns
        have hd := List.nodup_append.1 hns
        have hA : A.filter (fun e => !(e.born == e0.born)) = A := List.filter_eq_self.2 fun x hx => by
          have := hd.2.2 x.born (List.mem_map.2 ⟨x, hx, rfl⟩) e0.born List.mem_cons_self
          simpa using this
        have hB : B.filter (fun e => !(e.born == e0.born)) = B := List.filter_eq_self.2 fun x hx => by
          have := (List.nodup_cons.1 hd.2.1).1
          have hne2 : x.born ≠ e0.born := fun e => this (e ▸ List.mem_map.2 ⟨x, hx, rfl⟩)
          simpa using hne2
        rw [hA, hB, List.map_append]
    · have q1 := hWr.trans hsame
      have q2 := hWb.trans ((hoth b (Ne.symm hne)).trans hb1)
      exact run_entry_at (P := P) W r b since seen es clock e0 q1 q2 hmem hn
end
end Go.Proofs.Ytaicbllfkehhjaa

/- A page in memory; New, open. -/
namespace Go.Proofs.Ytaicbllfkehhjaa
open Go.RowKit

def iterLeft (w : World) (b r : Nat) : Nat := match w.heap[b]?, w.heap[r]? with
  | some (.map es _), some (.mapIter _ _ seen _) => (es.toList.filter fun e => !seen.contains e.born).length
  | _, _ => 0
theorem IterV.left {w : World} {b r : Nat} {L T : List (Value × Value)} (h : IterV w b r L T) : iterLeft w b r = T.length := by
  obtain ⟨es, clock, since, seen, c0, h1, h2, h3, h4, _, _, _, h5⟩ := h
  unfold iterLeft
  rw [h1, h4, ← h5, List.length_map]

/-- The keys of a page. -/
def StV (v : Value) : Prop := ∃ s : St2, v = .agg (stA s)
theorem stA_inj {s t : St2} (h : Value.agg (stA s) = .agg (stA t)) : s = t := by
  obtain ⟨a, b⟩ := s
  obtain ⟨c, d⟩ := t
  simp [stA] at h
  rw [h.1, h.2]
set_option maxRecDepth 100000 in
theorem checkS (w : World) (em : Bool) (s : St2) : (Instr.checkKey em 10000 33 (.agg (stA s))).run Try.prog w = .ok () w := by
  have hi : ∀ (W : World) (x : Int), (Instr.checkKey em 9999 3 (.int .i64 x)).run Try.prog W = .ok () W := fun W x => by
    rw [show (9999 : Nat) = 9998 + 1 from rfl]
    unfold Instr.checkKey
    simp [run_underlying Try.underlying3]
  rw [show (10000 : Nat) = 9999 + 1 from rfl]
  unfold Instr.checkKey
  simp [run_underlying Try.underlying33, stA, go_sem, hi]
theorem askS (w : World) (s : St2) : ∀ (es : List MapEntry) (i : Nat), (∀ e ∈ es, StV e.key) →
    ((Instr.findAsking 33 (.agg (stA s)) es i).run Try.prog w = .ok none w ∧ ∀ e ∈ es, e.key ≠ .agg (stA s)) ∨ ∃ (j : Nat) (e : MapEntry), (Instr.findAsking 33 (.agg (stA s)) es i).run Try.prog w = .ok (some (i + j, e.val)) w ∧ es[j]? = some e ∧ e.key = .agg (stA s)
  | [], i, _ => .inl ⟨rfl, by simp⟩
  | x :: es, i, h => by
    obtain ⟨t, ht⟩ := h x List.mem_cons_self
    have heq := eq_st s t w
    unfold Instr.findAsking
    rw [Sem.run_bind]
    have h1 : (Op.equal 33 (.agg (stA s)) x.key).run Try.prog w = .ok (decide (s = t)) w := by rw [ht]; exact heq
    rw [h1]
    by_cases hst : s = t
    · right
      refine ⟨0, x, ?_, rfl, by rw [ht, hst]⟩
      simp [hst]
    · have hne : x.key ≠ .agg (stA s) := fun e => hst (stA_inj (e.symm.trans ht))
      simp only [hst, decide_false, Result.andThen_ok, Bool.false_eq_true, if_false]
      rcases askS w s es (i + 1) (fun e he => h e (List.mem_cons_of_mem _ he)) with ⟨h2, h3⟩ | ⟨j, e, h2, h3, h4⟩
      · refine .inl ⟨h2, fun e he => ?_⟩
        rcases List.mem_cons.1 he with rfl | he
        · exact hne
        · exact h3 e he
      · exact .inr ⟨j + 1, e, by rw [h2, show i + 1 + j = i + (j + 1) by omega], by simpa using h3, h4⟩
theorem kysS : Kys Try.prog 33 StV where
  check w em v hv := by obtain ⟨s, rfl⟩ := hv; exact checkS w em s
  find w x hx es hes := by
    obtain ⟨s, rfl⟩ := hx
    have hu := run_underlying Try.underlying33 w
    cases es with
    | nil =>
      refine .inl ⟨?_, by simp⟩
      simp [Instr.findKey, hu, Instr.findNow]
    | cons e es =>
      have h1 : (Instr.findKey 33 (.agg (stA s)) (e :: es)).run Try.prog w = (Instr.findAsking 33 (.agg (stA s)) (e :: es) 0).run Try.prog w := by
        simp [Instr.findKey, hu, Instr.findNow, Instr.sameNow]
      rcases askS w s (e :: es) 0 hes with ⟨h2, h3⟩ | ⟨j, e', h2, h3, h4⟩
      · exact .inl ⟨h1.trans h2, h3⟩
      · exact .inr ⟨j, e', by rw [h1, h2, Nat.zero_add], h3, h4⟩
  stays w v hv := by
    obtain ⟨⟨a, b⟩, rfl⟩ := hv
    have : Instr.sameBits 10000 (.agg (stA (a, b))) (.agg (stA (a, b))) = true := by
      rw [show (10000 : Nat) = 9999 + 1 from rfl]
      simp [Instr.sameBits, stA]
    simp [Instr.keyThatStays, this]

def kvC (c : Cl) : Value × Value := (.agg (stA c.id), .agg (clA c))
def kvs (L : List Cl) : List (Value × Value) := L.map kvC
theorem kvs_key {L : List Cl} : ∀ p ∈ kvs L, StV p.1 := fun p hp => by
  obtain ⟨c, _, rfl⟩ := List.mem_map.1 hp
  exact ⟨c.id, rfl⟩
/-- A page: its block and its map's. -/
structure PgAt (w : World) (p b : Nat) (L : List Cl) : Prop where
  blk : Blk w p 98 #[.map (some b)]
  map : ∃ L', MapV w b (kvs L') ∧ L'.Perm L
theorem MapV.only {w w' : World} {b : Nat} {L : List (Value × Value)} {F : Foot} (h : MapV w b L) (hO : Only F w w') (hF : ¬ F b) : MapV w' b L := h.of_block (hO.block b h.lt hF)
theorem Blk.onl {w w' : World} {g : Nat} {t : TypeId} {cs : Array Value} {F : Foot} (h : Blk w g t cs) (hO : Only F w w') (hF : ¬ F g) : Blk w' g t cs := (hO.block g h.lt hF).trans h
theorem PgAt.only {w w' : World} {p b : Nat} {L : List Cl} {F : Foot} (h : PgAt w p b L) (hO : Only F w w') (h1 : ¬ F p) (h2 : ¬ F b) : PgAt w' p b L := by
  obtain ⟨L', k1, k2⟩ := h.map
  exact ⟨h.blk.onl hO h1, L', k1.only hO h2, k2⟩
theorem PgAt.below {w w' : World} {p b : Nat} {L : List Cl} (h : PgAt w p b L) (hb : Below w.heap.size w w') : PgAt w' p b L := h.only (Only.of_below hb fun _ => False) id id
theorem PgAt.ltb {w : World} {p b : Nat} {L : List Cl} (h : PgAt w p b L) : b < w.heap.size := by
  obtain ⟨L', k1, k2⟩ := h.map
  exact k1.lt
theorem PgAt.ne {w : World} {p b : Nat} {L : List Cl} (h : PgAt w p b L) : p ≠ b := by
  obtain ⟨L', ⟨es, clock, k1, _⟩, _⟩ := h.map
  have := h.blk
  unfold Blk at this
  intro e
  rw [e, k1] at this
  cases this
theorem PgAt.perm {w : World} {p b : Nat} {L M : List Cl} (h : PgAt w p b L) (hp : L.Perm M) : PgAt w p b M := by
  obtain ⟨L', k1, k2⟩ := h.map
  exact ⟨h.blk, L', k1, k2.trans hp⟩

set_option maxRecDepth 100000 in
theorem new_any (w : World) : Calls Try.prog 32 #[] w fun e w' => ∃ p b : Nat, e = .returned (.pointer (some ⟨p, 0, none⟩)) ∧ PgAt w' p b [] ∧ w.heap.size ≤ p ∧ w.heap.size ≤ b ∧ Below w.heap.size w w' := by
  have hb := (Below.refl w.heap.size w).alloc (Nat.le_refl _) (.map #[] 0)
  have hm := MapV.made w
  have hlt : w.heap.size < (w.alloc (.map #[] 0)).heap.size := by simp
  have hmm := @run_makeMap Try.prog
  go_enter Try.func32, Try.ntmps32
  go_wp2
  go_ret
  have hk := Blk.new1 w (.map #[] 0) 98 #[.map (some w.heap.size)]
  refine ⟨w.heap.size + 1, w.heap.size, rfl, ⟨hk, [], (hm.alloc _), List.Perm.refl _⟩, by omega, Nat.le_refl _, hb.alloc hb.size _⟩

theorem openN_cons (c : Cl) (L : List Cl) : openN (c :: L) = openN L + (if c.gone then 0 else 1) := by
  unfold openN
  rw [List.countP_cons]
  cases c.gone <;> rfl
set_option maxRecDepth 100000 in
set_option maxHeartbeats 8000000 in
theorem open_any (w : World) (b : Nat) (L : List Cl) (h : MapV w b (kvs L)) (hl : L.length ≤ 1000000) : Calls Try.prog 61 #[.map (some b)] w fun e w' => e = .returned (.int .i64 (openN L : Nat)) ∧ Below w.heap.size w w' := by
  obtain ⟨o, hr, hI⟩ := h.range (P := Try.prog) Try.underlying53
  have hb := (Below.refl w.heap.size w).alloc (Nat.le_refl _) o
  have hlt := h.lt
  have hopl : openN L ≤ L.length := List.countP_le_length
  generalize w.alloc o = X at *
  have HI := Lib.hid hI
  have HB := Lib.hid hb
  clear hI hb h
  go_enter Try.func61, Try.ntmps61
  go_wp2_with fail
  go_loopw [3] (fun v wr => ∃ (n : Nat) (T : List Cl), v = .int .i64 (n : Int) ∧ IterV wr b w.heap.size (kvs L) (kvs T) ∧ Below w.heap.size w wr ∧ Hid (n + openN T = openN L)) (fun _ wr => iterLeft wr b w.heap.size)
  case atStart => exact ⟨0, L, rfl, HI.out, HB.out, Lib.hid (Nat.zero_add _)⟩
  case round =>
    clear HI HB hr
    obtain ⟨n, T, rfl, I, hb, HN⟩ := hrel
    have hleft := I.left
    rcases I.next (P := Try.prog) 0 with ⟨hT, hnx⟩ | ⟨A, B, x, v, w1, hT, hxv, hnx, hg, I1, hen⟩
    · have hfin : n = openN L := by
        have := HN.out
        have hT' : T = [] := by simpa [kvs] using hT
        rw [hT'] at this
        simpa [openN] using this
      subst hfin
      clear HN hT hleft
      go_wp2
      go_ret
      exact ⟨rfl, hb⟩
    · obtain ⟨A', R, rfl, hA, hR⟩ := List.map_eq_append_iff.1 hT
      obtain ⟨c, B', rfl, hc, hB⟩ := List.map_eq_cons_iff.1 hR
      obtain ⟨rfl, rfl⟩ : x = .agg (stA c.id) ∧ v = .agg (clA c) := by
        have : kvC c = (x, v) := hc
        unfold kvC at this
        exact ⟨(congrArg Prod.fst this).symm, (congrArg Prod.snd this).symm⟩
      have I2 : IterV w1 b w.heap.size (kvs L) (kvs (A' ++ B')) := by
        rw [← hA, ← hB, ← List.map_append] at I1
        exact I1
      have hb1 : Below w.heap.size w w1 := hb.grown hg hb.size (fun y hy => by injection hy with hy; omega)
      have hIlt := I2.ltr
      have hen2 : ∀ W : World, W.heap[b]? = w1.heap[b]? → W.heap[w.heap.size]? = w1.heap[w.heap.size]? → (Instr.entry (.pointer (some ⟨w.heap.size, 0, none⟩))).run Try.prog W = .ok (.tuple #[.agg (stA c.id), .agg (clA c)]) W := hen
      have hent := hen2 w1 rfl rfl
      have kN := Blk.new w1 56 (clA c)
      have hpc := put_cl w1 c
      have hcz := clA_size c
      obtain ⟨-, -, -, -, k19⟩ := cl_cells kN
      have hb2 := hb1.alloc hb1.size (.cells (clA c) 56)
      have I3 : IterV (w1.alloc (.cells (clA c) 56)) b w.heap.size (kvs L) (kvs (A' ++ B')) := I2.of_blocks (Below.heap_alloc w1 _ b I2.map.lt) (Below.heap_alloc w1 _ _ hIlt)
      have hleft2 := I3.left
      have hopn : openN (A' ++ c :: B') = openN (A' ++ B') + (if c.gone then 0 else 1) := by
        rw [openN_perm (List.perm_middle (a := c) (l₁ := A') (l₂ := B')), openN_cons]
      have HOP := Lib.hid hopn
      have hnl : n ≤ 1000000 := by have := HN.out; omega
      have I3H := Lib.hid I3
      clear I I1 I2 hT hR hc hA hB hxv hen hen2 kN hopn I3 hg hb hb1
      generalize clA c = CC at *
      cases hgn : c.gone with
      | true =>
        rw [hgn] at k19 HOP
        have HN2 := Lib.hid (show n + openN (A' ++ B') = openN L by have := HN.out; have := HOP.out; simp at this; omega)
        clear HN HOP hgn
        go_wp2_with fail
        go_roundw
        case rel => exact ⟨n, A' ++ B', rfl, I3H.out, hb2, HN2⟩
        case measure => rw [hleft2, hleft]; simp [kvs]
      | false =>
        rw [hgn] at k19 HOP
        have HN2 := Lib.hid (show n + 1 + openN (A' ++ B') = openN L by have := HN.out; have := HOP.out; simp at this; omega)
        clear HN HOP hgn
        go_wp2_with fail
        go_roundw
        case rel => exact ⟨n + 1, A' ++ B', by go_num, I3H.out, hb2, HN2⟩
        case measure => rw [hleft2, hleft]; simp [kvs]
end Go.Proofs.Ytaicbllfkehhjaa

/- A region that draws its order, over any program: reads that hold as long as S does, first; then operations that come up in any order, behind each of which S holds; then the rest, one at a time. And append of a slice that may be nil. -/
namespace Go.Proofs.Ytaicbllfkehhjaa
open Go.RowKit

section
variable {P : Program} {md : Region.Mode} {ops : Array Oper} {Q : Exit → Act → World → Prop}

def setAll (ks : List Nat) (listed : Array Bool) : Array Bool := ks.foldl (fun b k => b.setIfInBounds k true) listed
theorem headB_set {ops : Array Oper} : ∀ (ks : List Nat) (listed l2 : Array Bool), headB md ops ks listed = some l2 → setAll ks listed = l2
  | [], _, _, h => by simp only [headB, Option.some.injEq] at h; exact h
  | k :: ks, listed, l2, h => by
    unfold headB at h
    split at h
    · exact headB_set ks _ _ h
    · cases h
/-- What is not listed is among the late ones. -/
def lateB (n : Nat) (fs : List Nat) (listed : Array Bool) : Bool := (List.range n).all fun j => listed.getD j false || fs.contains j

/-- What may come up in any order, f operations; behind each S holds; then the reads gs, and ts, one at a time. -/
def wpBush (P : Program) (l : List Oper) (S : World → Prop) (Q : Exit → Act → World → Prop) (gs ts : List Nat) : Nat → Array Bool → Act → World → Prop
  | 0, listed, a, w => lateB l.toArray.size (gs ++ ts) listed = true ∧ (headB .any l.toArray gs listed).isSome = true ∧ tailB .any l.toArray ts (setAll gs listed) = true ∧
      wpHeld P l.toArray (fun _ => True) (fun a' => wpList P l.toArray Q (pick l ts) a' w) (pick l gs) a
  | f + 1, listed, a, w => Region.ready .any l.toArray listed ≠ [] ∧ ∀ i ∈ Region.ready .any l.toArray listed,
      wpList P l.toArray (Exit.then (fun a' w' => S w' ∧ wpBush P l S Q gs ts f (listed.setIfInBounds i true) a' w') Q) (pick l [i]) a w

section
variable {l : List Oper} {S : World → Prop} {gs ts : List Nat} {listed : Array Bool} {a : Act} {w : World} {f : Nat}
theorem wpBush_end (hL : lateB l.toArray.size (gs ++ ts) listed = true) (hG : (headB .any l.toArray gs listed).isSome = true) (hB : tailB .any l.toArray ts (setAll gs listed) = true) (h : wpHeld P l.toArray (fun _ => True) (fun a' => wpList P l.toArray Q (pick l ts) a' w) (pick l gs) a) : wpBush P l S Q gs ts 0 listed a w := ⟨hL, hG, hB, h⟩
theorem wpBush_one (i : Nat) (hr : Region.ready .any l.toArray listed = [i])
    (h : wpList P l.toArray (Exit.then (fun a' w' => S w' ∧ wpBush P l S Q gs ts f (listed.setIfInBounds i true) a' w') Q) (pick l [i]) a w) : wpBush P l S Q gs ts (f + 1) listed a w :=
  ⟨by rw [hr]; simp, fun j hj => by rw [hr] at hj; simp at hj; subst hj; exact h⟩
theorem wpBush_two (i k : Nat) (hr : Region.ready .any l.toArray listed = [i, k])
    (h : wpList P l.toArray (Exit.then (fun a' w' => S w' ∧ wpBush P l S Q gs ts f (listed.setIfInBounds i true) a' w') Q) (pick l [i]) a w)
    (h2 : wpList P l.toArray (Exit.then (fun a' w' => S w' ∧ wpBush P l S Q gs ts f (listed.setIfInBounds k true) a' w') Q) (pick l [k]) a w) : wpBush P l S Q gs ts (f + 1) listed a w :=
  ⟨by rw [hr]; simp, fun j hj => by
    rw [hr] at hj
    simp only [List.mem_cons, List.not_mem_nil, or_false] at hj
    rcases hj with rfl | rfl <;> assumption⟩
theorem wpBush_three (i k m : Nat) (hr : Region.ready .any l.toArray listed = [i, k, m])
    (h : wpList P l.toArray (Exit.then (fun a' w' => S w' ∧ wpBush P l S Q gs ts f (listed.setIfInBounds i true) a' w') Q) (pick l [i]) a w)
    (h2 : wpList P l.toArray (Exit.then (fun a' w' => S w' ∧ wpBush P l S Q gs ts f (listed.setIfInBounds k true) a' w') Q) (pick l [k]) a w)
    (h3 : wpList P l.toArray (Exit.then (fun a' w' => S w' ∧ wpBush P l S Q gs ts f (listed.setIfInBounds m true) a' w') Q) (pick l [m]) a w) : wpBush P l S Q gs ts (f + 1) listed a w :=
  ⟨by rw [hr]; simp, fun j hj => by
    rw [hr] at hj
    simp only [List.mem_cons, List.not_mem_nil, or_false] at hj
    rcases hj with rfl | rfl | rfl <;> assumption⟩
end

theorem wpAnyE_any {ops : Array Oper} {S : World → Prop} {late : Nat → Bool} (hS : ∀ w, S w) : ∀ (f : Nat) (listed : Array Bool) (a : Act) (w : World), wpAny P md ops Q f listed a w → wpAnyE P md ops Q S late f listed a w
  | 0, _, _, _, h => h
  | f + 1, _, _, _, h => ⟨h.1, fun i hi => wpOp_mono (fun a' w' h' => ⟨fun _ => hS w', wpAnyE_any hS f _ a' w' h'⟩) (h.2 i hi)⟩

/-- What can still come is late. -/
theorem wpAnyE_late {ops : Array Oper} {S : World → Prop} {late : Nat → Bool} : ∀ (f : Nat) (listed : Array Bool) (a : Act) (w : World), (∀ j, j < ops.size → listed.getD j false = false → late j = true) → wpAny P md ops Q f listed a w → wpAnyE P md ops Q S late f listed a w
  | 0, _, _, _, _, h => h
  | f + 1, listed, _, _, hl, h => by
    refine ⟨h.1, fun i hi => wpOp_mono (fun a' w' h' => ⟨fun hf => ?_, ?_⟩) (h.2 i hi)⟩
    · obtain ⟨hn, o, ho, _⟩ := mem_ready.1 hi
      have hlt : i < ops.size := by
        rcases Nat.lt_or_ge i ops.size with h1 | h1
        · exact h1
        · rw [Array.getElem?_eq_none h1] at ho; cases ho
      rw [hl i hlt (getD_both hn)] at hf
      cases hf
    · refine wpAnyE_late f _ a' w' (fun j hj hjl => hl j hj ?_) h'
      by_cases hij : i = j
      · subst hij
        obtain ⟨hn, _⟩ := mem_ready.1 hi
        exact getD_both hn
      · rw [getD_set_ne false hij] at hjl; exact hjl

theorem wpAnyE_bush {l : List Oper} {S : World → Prop} {gs ts : List Nat} (hsel : Region.noSelect l.toArray = true) (hQ : ∀ c (d : Option Tmp) (v : Value) a w, Q (.panic c) (a.put d v) w → Q (.panic c) a w) :
    ∀ (f : Nat) (listed : Array Bool) (a : Act) (w : World), Closed .any l.toArray listed →
    wpBush P l S Q gs ts f listed a w → wpAnyE P .any l.toArray Q S (fun j => (gs ++ ts).contains j) (f + (gs.length + ts.length)) listed a w
  | 0, listed, a, w, hc, h => by
    rw [Nat.zero_add]
    obtain ⟨hb, h1, h2, h3⟩ := h
    cases h4 : headB .any l.toArray gs listed with
    | none => rw [h4] at h1; cases h1
    | some l2 =>
      have hl2 := headB_set _ _ _ h4
      rw [hl2] at h2
      refine wpAnyE_late _ _ _ _ (fun j hj hjl => ?_) ?_
      · have := List.all_eq_true.1 hb j (by simpa using hj)
        rw [hjl, Bool.false_or] at this
        exact this
      refine wpAny_of_E (S := fun _ => True) (late := fun _ => false) _ _ _ _ ?_
      refine wpAnyE_held (P := P) (Q := Q) (md := .any) (w := w) (S := fun _ => True) (late := fun _ => false) (K := fun a' => wpList P l.toArray Q (pick l ts) a' w) (hs := gs) (g := ts.length) hsel hQ
        (fun j i hi hj => by cases hj) (fun i hi => rfl) trivial
        (fun a' ha' => wpAnyE_any (fun _ => trivial) _ _ _ _ (wpAny_tail ts l2 a' w h2 ha')) gs listed a (fun k hk => hk) hc h4 h3
  | f + 1, listed, a, w, hc, h => by
    rw [show f + 1 + (gs.length + ts.length) = (f + (gs.length + ts.length)) + 1 by omega]
    refine ⟨fun h0 => absurd h0 h.1, fun i hi => ?_⟩
    obtain ⟨_, o, h0, _⟩ := mem_ready.1 hi
    have hp : pick l [i] = [o] := by
      have : l[i]? = some o := by simpa using h0
      simp [pick, this]
    have h2 := h.2 i hi
    rw [hp] at h2
    exact wpOp_mono (fun a' w' h' => ⟨fun _ => h'.1, wpAnyE_bush hsel hQ f _ a' w' (hc.set hi) h'.2⟩) (wpOp_of_one h0 h2)

def bushB (l : List Oper) (hs fs : List Nat) (n : Nat) : Bool :=
  Region.noSelect l.toArray && decide (hs.length + n + fs.length = l.length) && waitB .any l.toArray fs hs && (hs.all fun i => !fs.contains i) && (headB .any l.toArray hs (Array.replicate l.length false)).isSome

/-- The reads of a region, taken first, keep the state closed. -/
theorem headB_closed {l : List Oper} : ∀ (ks : List Nat) (listed l2 : Array Bool), Closed md l.toArray listed → headB md l.toArray ks listed = some l2 → Closed md l.toArray l2
  | [], _, _, hc, h => by simp only [headB, Option.some.injEq] at h; subst h; exact hc
  | k :: ks, listed, l2, hc, h => by
    unfold headB at h
    split at h
    · rename_i hrf
      simp only [Bool.and_eq_true] at hrf
      exact headB_closed ks _ _ (hc.set (by simpa using hrf.1)) h
    · cases h

/-- A REGION THAT DRAWS ITS ORDER: the reads 'hs', whose values hold as long as S does; then n operations in any order, behind each of which S holds; then the reads 'gs' and 'ts', one at a time: these wait for all of 'hs'. -/
theorem wp_region_bush {id : Nat} {l : List Oper} {a : Act} {w : World} (S : World → Prop) (hs : List Nat) (n : Nat) (gs ts : List Nat) (hm : P.follows .mixedOrders = true) (hB : bushB l hs (gs ++ ts) n = true)
    (hQ : ∀ c (d : Option Tmp) (v : Value) a w, Q (.panic c) (a.put d v) w → Q (.panic c) a w) (hS : S w.drew)
    (h : wpHeld P l.toArray S (fun a' => wpBush P l S Q gs ts n (setAll hs (Array.replicate l.length false)) a' w.drew) (pick l hs) a) : (Code.region id l.toArray true).wp P Q a w := by
  simp only [bushB, Bool.and_eq_true, decide_eq_true_eq] at hB
  obtain ⟨⟨⟨⟨hsel, hlen⟩, hw⟩, hnf⟩, hrest⟩ := hB
  cases h2 : headB .any l.toArray hs (Array.replicate l.length false) with
  | none => rw [h2] at hrest; cases hrest
  | some l2 =>
    have hl2 := headB_set _ _ _ h2
    rw [hl2] at h
    have hc0 : Closed .any l.toArray (Array.replicate l.length false) := fun j oj _ hl => by rw [getD_replicate_false] at hl; cases hl
    have hc2 := headB_closed _ _ _ hc0 h2
    refine wp_region_any hm ?_
    have key := wpAnyE_held (P := P) (Q := Q) (md := .any) (w := w.drew) (S := S) (late := fun j => (gs ++ ts).contains j) (hs := hs) (g := n + (gs.length + ts.length)) hsel hQ
      (fun j i hi hj => List.all_eq_true.1 (List.all_eq_true.1 hw j (List.contains_iff_mem.1 hj)) i hi) (fun i hi => by have := List.all_eq_true.1 hnf i hi; cases hc : (gs ++ ts).contains i; rfl; rw [hc] at this; cases this) hS
      (fun a' ha' => wpAnyE_bush hsel hQ n l2 a' w.drew hc2 ha') hs (Array.replicate l.length false) a (fun k hk => hk) hc0 h2 h
    have k3 := wpAny_of_E _ _ _ _ key
    rw [List.length_append] at hlen
    have : l.length = hs.length + (n + (gs.length + ts.length)) := by omega
    rw [← this] at k3
    have hsz : l.toArray.size = l.length := by simp
    rw [hsz]
    exact k3

/-- The library's law, its world written as the walk wants it. -/
theorem wp_region_tailB {id : Nat} {l : List Oper} {a : Act} {w : World} (n : Nat) (hm : P.follows .mixedOrders = true) (hB : Region.lexTailB .any l.toArray n = true)
    (h : wpStill P l.toArray w.drew (fun a' => wpList P l.toArray Q (l.drop n) a' w.drew) (l.take n) a) : (Code.region id l.toArray true).wp P Q a w :=
  wp_region_still_tail n hm hB h

/-- append(v, x...): v the call's own, x a slice that may be nil. -/
theorem wpList_append_any {w : World} {rest : List Oper} {o : Oper} {a : Act} (hgd : o.guard = none) (s x : Operand) (t : TypeId)
    (ho : o.op = .call { callee := .builtin .append, args := #[s, x], argTypes := #[t, t] })
    (base : Nat) (e : TypeId) (i : TypeInfo) (z : Value) (size bytes : Nat) (ht : P.underlying t = some (.slice e)) (hi : P.info? e = some i) (hz : i.zero = some z)
    (hsize : i.size = size) (hby : i.bytes = bytes) (hzs : z.cells.size = size) (hsz : 0 < size)
    (v : Value) (n : Nat) (xs : List Value) (hs : a.eval s = v) (hown : w.ownsRow base e size v n xs)
    (A : Option Addr) (m c : Nat) (news : List Value) (hx : a.eval x = .slice A m c) (hl : news.length = m * size) (hnews : ∀ j u, news[j]? = some u → ∃ ad, A = some ad ∧ w.cell? (ad.add j) = some u) (h1 : ∀ u ∈ news, u.oneCell' = true)
    (h63 : n + m ≤ maxLen) (hbytes : (n + m) * bytes ≤ 140737488355328) (hbase : base ≤ w.heap.size)
    (h : ∀ v' w', w'.ownsRow base e size v' (n + m) (xs ++ news) → w.grownBy w' v.ownBlock → (v'.ownBlock = v.ownBlock ∨ v'.ownBlock = some w.heap.size) → wpList P ops Q rest (a.put o.dst v') w') :
    wpList P ops Q (o :: rest) a w := by
  cases A with
  | some ad =>
    refine wpList_append_own_at w hgd s x t ho base e i z size bytes ht hi hz hsize hby hzs hsz v n xs hs hown ad m c news hx hl (fun j u hj => ?_) h1 h63 hbytes hbase (fun v' w' h2 h3 _ h5 => h v' w' h2 h3 h5)
    obtain ⟨ad', e1, e2⟩ := hnews j u hj
    injection e1 with e1
    rw [e1]
    exact e2
  | none =>
    have hn : news = [] := by
      match news, hnews with
      | [], _ => rfl
      | u :: us, hnews => obtain ⟨_, e1, _⟩ := hnews 0 u rfl; cases e1
    subst hn
    have hm : m = 0 := by
      rcases Nat.eq_zero_or_pos m with h0 | h0
      · exact h0
      · have := Nat.mul_pos h0 hsz
        simp at hl
        omega
    subst hm
    refine wpList_plain hgd fun K hK => ?_
    have hr : (Builtin.append_ #[t, t] o.type #[v, .slice none 0 c]).run P w = .ok v w := by
      rcases hown.2 with ⟨rfl, rfl⟩ | ⟨g, cap, cur, rfl, _, _, hnc, _⟩
      · simp [Builtin.append_, run_underlying ht, sizeOf, typeInfo, hi, Builtin.lenOf, Builtin.firstCells]
      · simp [Builtin.append_, run_underlying ht, sizeOf, typeInfo, hi, Builtin.lenOf, Builtin.firstCells, hnc, storeCells]
    unfold Oper.wp execOp
    simp only [ho, resolve, invoke, builtin, Sem.run_bind, Sem.run_pure, Result.andThen_ok, List.map_toArray, List.map_cons, List.map_nil, hs, hx, hr]
    exact hK _ _ (h v w (by simpa using hown) ⟨rfl, rfl, rfl, Nat.le_refl _, fun _ _ _ => rfl⟩ (.inl rfl))
end
end Go.Proofs.Ytaicbllfkehhjaa

/- merge, Put, Drop on a page. -/
namespace Go.Proofs.Ytaicbllfkehhjaa
open Go.RowKit

theorem blk_store {W : World} {g : Nat} {C0 : Array Value} (h : Blk W g 56 C0) (hz : C0.size = 20) (c : Cl) : (storeCells ⟨g, 0, none⟩ (clA c).toList).run Try.prog W = .ok () (W.setRow g (clA c)) := by
  have := run_storeVar_row (P := Try.prog) W g 56 56 C0 (clA c) h (by kernel_rfl) (by rw [hz, clA_size]) (clA_one c)
  cases hq : Try.prog.info? 56 with
  | none =>
    have hi : (Try.prog.info? 56).map (·.size) = some 20 := by kernel_rfl
    rw [hq] at hi; cases hi
  | some i =>
    have hi : (Try.prog.info? 56).map (·.size) = some 20 := by kernel_rfl
    have hs : i.size = 20 := by rw [hq] at hi; simpa using hi
    simpa [storeVar, sizeOf, typeInfo, hq, Value.cells, hs, clA_size] using this
theorem blk_setRow {W : World} {g : Nat} {t : TypeId} {C0 C : Array Value} (h : Blk W g t C0) : Blk (W.setRow g C) g t C := by
  unfold Blk at h ⊢
  simp [World.setRow, Array.getElem?_modify, h]
theorem blk_farRow {W : World} {g g' : Nat} {t : TypeId} {C0 C : Array Value} (h : Blk W g t C0) (hne : g' ≠ g) : Blk (W.setRow g' C) g t C0 := by
  unfold Blk at h ⊢
  simp [World.setRow, Array.getElem?_modify, h, hne]
theorem below_setRow {B : Nat} {w0 W : World} {g : Nat} (C : Array Value) (h : Below B w0 W) (hg : B ≤ g) : Below B w0 (W.setRow g C) := by
  refine ⟨h.os, h.tape, h.output, by simpa [World.setRow] using h.size, fun i hi => ?_⟩
  rw [← h.block i hi]
  simp [World.setRow, Array.getElem?_modify, show g ≠ i by omega]
theorem exec_load_cl {ev : Operand → Value} {o : Oper} {W : World} {x : Operand} (ho : o.op = .load 56 x) {g : Nat} (hx : ev x = .pointer (some ⟨g, 0, none⟩)) {c : Cl} (hb : Blk W g 56 (clA c)) :
    (execOp ev o).run Try.prog W = .ok (.value (.agg (clA c))) W := by
  have := run_loadVar_row (P := Try.prog) W g 56 56 (clA c) (0, 0) _ hb Try.underlying56 rfl (by rw [clA_size]; kernel_rfl)
  unfold execOp
  simp only [ho, hx, Instr.loadAt, Instr.sureAddr, Sem.run_bind, Sem.run_pure, Result.andThen_ok, this]
theorem load_cl {ops : Array Oper} {rest : List Oper} {o : Oper} {a : Act} {W : World} {Q : Exit → Act → World → Prop} (hgd : o.guard = none) {x : Operand} (ho : o.op = .load 56 x) {g : Nat} (hx : a.eval x = .pointer (some ⟨g, 0, none⟩)) {c : Cl} (hb : Blk W g 56 (clA c))
    (h : wpList Try.prog ops Q rest (a.put o.dst (.agg (clA c))) W) : wpList Try.prog ops Q (o :: rest) a W :=
  wpList_load_row hgd 56 x ho g hx 56 (clA c) (0, 0) _ hb Try.underlying56 rfl (by rw [clA_size]; kernel_rfl) h
theorem load_clg {ops : Array Oper} {rest : List Oper} {o : Oper} {a : Act} {W : World} {Q : Exit → Act → World → Prop} (hw : Region.wanted o (yielded ops a.tmps) = true) {x : Operand} (ho : o.op = .load 56 x) {g : Nat} (hx : a.eval x = .pointer (some ⟨g, 0, none⟩)) {c : Cl} (hb : Blk W g 56 (clA c))
    (h : wpList Try.prog ops Q rest (a.put o.dst (.agg (clA c))) W) : wpList Try.prog ops Q (o :: rest) a W := by
  unfold wpList
  rw [if_pos hw]
  exact .inl (wp_load_row 56 x ho g hx 56 (clA c) (0, 0) _ hb Try.underlying56 rfl (by rw [clA_size]; kernel_rfl) h)
def setG (c : Cl) (g : Bool) : Cl := { c with gone := g }
theorem clA_set (c : Cl) (g : Bool) : (clA c).setIfInBounds 19 (.bool g) = clA (setG c g) := rfl
theorem mrg_same (a b : Cl) : decide (setG a (a.gone || b.gone) = setG b (a.gone || b.gone)) = sameC a b := by
  unfold sameC
  rw [decide_eq_decide, cl_iff]
  simp [setG]

def TupC (c : Cl) (b : Bool) : Value := .tuple #[.agg (clA c), .bool b]
set_option maxRecDepth 100000 in
set_option maxHeartbeats 8000000 in
theorem merge_any (w : World) (a b : Cl) : Calls Try.prog 60 #[.agg (clA a), .agg (clA b)] w fun e w' => e = .returned (TupC (mrgC a b) (sameC a b)) ∧ Below w.heap.size w w' := by
  have kA : Blk (((w.alloc (.cells (clA a) 56)).alloc (.cells (clA b) 56)).alloc (.cells #[.int .i64 0, .int .i64 0, .int .i64 0, .int .i64 0, .int .i64 0, .string ⟨#[]⟩, .string ⟨#[]⟩, .string ⟨#[]⟩, .string ⟨#[]⟩, .int .i64 0, .string ⟨#[]⟩, .string ⟨#[]⟩, .string ⟨#[]⟩, .string ⟨#[]⟩, .string ⟨#[]⟩, .bool false, .int .i64 0, .string ⟨#[]⟩, .string ⟨#[]⟩, .bool false] 56)) w.heap.size 56 (clA a) := ((Blk.new w _ _).alloc _).alloc _
  have kB : Blk (((w.alloc (.cells (clA a) 56)).alloc (.cells (clA b) 56)).alloc (.cells #[.int .i64 0, .int .i64 0, .int .i64 0, .int .i64 0, .int .i64 0, .string ⟨#[]⟩, .string ⟨#[]⟩, .string ⟨#[]⟩, .string ⟨#[]⟩, .int .i64 0, .string ⟨#[]⟩, .string ⟨#[]⟩, .string ⟨#[]⟩, .string ⟨#[]⟩, .string ⟨#[]⟩, .bool false, .int .i64 0, .string ⟨#[]⟩, .string ⟨#[]⟩, .bool false] 56)) (w.heap.size + 1) 56 (clA b) := (Blk.new1 w _ _ _).alloc _
  have kR : Blk (((w.alloc (.cells (clA a) 56)).alloc (.cells (clA b) 56)).alloc (.cells #[.int .i64 0, .int .i64 0, .int .i64 0, .int .i64 0, .int .i64 0, .string ⟨#[]⟩, .string ⟨#[]⟩, .string ⟨#[]⟩, .string ⟨#[]⟩, .int .i64 0, .string ⟨#[]⟩, .string ⟨#[]⟩, .string ⟨#[]⟩, .string ⟨#[]⟩, .string ⟨#[]⟩, .bool false, .int .i64 0, .string ⟨#[]⟩, .string ⟨#[]⟩, .bool false] 56)) (w.heap.size + 1 + 1) 56 #[.int .i64 0, .int .i64 0, .int .i64 0, .int .i64 0, .int .i64 0, .string ⟨#[]⟩, .string ⟨#[]⟩, .string ⟨#[]⟩, .string ⟨#[]⟩, .int .i64 0, .string ⟨#[]⟩, .string ⟨#[]⟩, .string ⟨#[]⟩, .string ⟨#[]⟩, .string ⟨#[]⟩, .bool false, .int .i64 0, .string ⟨#[]⟩, .string ⟨#[]⟩, .bool false] := Blk.new2 w _ _ _ _
  have hb : Below w.heap.size w (((w.alloc (.cells (clA a) 56)).alloc (.cells (clA b) 56)).alloc (.cells #[.int .i64 0, .int .i64 0, .int .i64 0, .int .i64 0, .int .i64 0, .string ⟨#[]⟩, .string ⟨#[]⟩, .string ⟨#[]⟩, .string ⟨#[]⟩, .int .i64 0, .string ⟨#[]⟩, .string ⟨#[]⟩, .string ⟨#[]⟩, .string ⟨#[]⟩, .string ⟨#[]⟩, .bool false, .int .i64 0, .string ⟨#[]⟩, .string ⟨#[]⟩, .bool false] 56)) := (((Below.refl w.heap.size w).alloc (Nat.le_refl _) _).alloc (by simp) _).alloc (by simp; omega) _
  have hmg := mrg_same a b
  have hsm : setG a (a.gone || b.gone) = mrgC a b := rfl
  obtain ⟨R, hR⟩ : ∃ r, sameC a b = r := ⟨_, rfl⟩
  rw [hR] at hmg ⊢
  rw [← hsm]
  obtain ⟨G, hG⟩ : ∃ g, (a.gone || b.gone) = g := ⟨_, rfl⟩
  rw [hG] at hmg ⊢
  clear hsm hR
  go_enter Try.func60, Try.ntmps60
  go_upto_region 1 with fail
  generalize ((w.alloc (.cells (clA a) 56)).alloc (.cells (clA b) 56)).alloc (.cells #[.int .i64 0, .int .i64 0, .int .i64 0, .int .i64 0, .int .i64 0, .string ⟨#[]⟩, .string ⟨#[]⟩, .string ⟨#[]⟩, .string ⟨#[]⟩, .int .i64 0, .string ⟨#[]⟩, .string ⟨#[]⟩, .string ⟨#[]⟩, .string ⟨#[]⟩, .string ⟨#[]⟩, .bool false, .int .i64 0, .string ⟨#[]⟩, .string ⟨#[]⟩, .bool false] 56) = w3 at *
  obtain ⟨-, -, -, -, ca⟩ := cl_cells kA
  obtain ⟨-, -, -, -, cb⟩ := cl_cells kB
  have fa := kA.frozen 19
  have fb := kB.frozen 19
  have hcut : ∀ W, W = (w3.setCell ⟨w.heap.size, 19, none⟩ (.bool G)).setCell ⟨w.heap.size + 1, 19, none⟩ (.bool G) → Blk W w.heap.size 56 (clA (setG a G)) ∧ Blk W (w.heap.size + 1) 56 (clA (setG b G)) ∧ Blk W (w.heap.size + 1 + 1) 56 #[.int .i64 0, .int .i64 0, .int .i64 0, .int .i64 0, .int .i64 0, .string ⟨#[]⟩, .string ⟨#[]⟩, .string ⟨#[]⟩, .string ⟨#[]⟩, .int .i64 0, .string ⟨#[]⟩, .string ⟨#[]⟩, .string ⟨#[]⟩, .string ⟨#[]⟩, .string ⟨#[]⟩, .bool false, .int .i64 0, .string ⟨#[]⟩, .string ⟨#[]⟩, .bool false] ∧ Below w.heap.size w W := fun W hW => by
    subst hW
    refine ⟨?_, ?_, ?_, ?_⟩
    · exact (kA.set_ 19 (.bool G)).far (by show w.heap.size ≠ w.heap.size + 1; omega) _
    · exact (kB.far (p := ⟨w.heap.size, 19, none⟩) (by show w.heap.size + 1 ≠ w.heap.size; omega) _).set_ 19 (.bool G)
    · exact (kR.far (p := ⟨w.heap.size, 19, none⟩) (by show w.heap.size + 1 + 1 ≠ w.heap.size; omega) _).far (by show w.heap.size + 1 + 1 ≠ w.heap.size + 1; omega) _
    · exact (hb.setCell (p := ⟨w.heap.size, 19, none⟩) (by show w.heap.size ≤ w.heap.size; omega) _).setCell (p := ⟨w.heap.size + 1, 19, none⟩) (by show w.heap.size ≤ w.heap.size + 1; omega) _
  have HCUT := Lib.hid hcut
  have HMG := Lib.hid hmg
  have HGG := Lib.hid hG
  clear hcut hmg hG kA kB kR hb
  have fin : ∀ gb : Bool, gb = G → True := fun _ _ => trivial
  cases hga : a.gone with
  | true =>
    rw [hga] at ca HGG
    obtain rfl : true = G := HGG.out
    clear hga fin
    go_upto_region 3 with fail
    obtain ⟨kA, kB, kR, hb⟩ := HCUT.out _ rfl
    clear ca cb fa fb HCUT HGG
    generalize (w3.setCell ⟨w.heap.size, 19, none⟩ (.bool true)).setCell ⟨w.heap.size + 1, 19, none⟩ (.bool true) = w5 at *
    have hz : (#[.int .i64 0, .int .i64 0, .int .i64 0, .int .i64 0, .int .i64 0, .string ⟨#[]⟩, .string ⟨#[]⟩, .string ⟨#[]⟩, .string ⟨#[]⟩, .int .i64 0, .string ⟨#[]⟩, .string ⟨#[]⟩, .string ⟨#[]⟩, .string ⟨#[]⟩, .string ⟨#[]⟩, .bool false, .int .i64 0, .string ⟨#[]⟩, .string ⟨#[]⟩, .bool false] : Array Value).size = 20 := rfl
    have heq : ∀ W : World, (Op.equalIn 10000 56 (.agg (clA (setG a true))) (.agg (clA (setG b true)))).run Try.prog W = .ok R W := fun W => by rw [eq_cl, HMG.out]
    have hcz := clA_size (setG a true)
    have st := blk_store kR.drew hz (setG a true)
    have kR7 := blk_setRow (C := clA (setG a true)) kR.drew
    have hb7 := below_setRow (g := w.heap.size + 1 + 1) (clA (setG a true)) hb.drew (by omega)
    have kA7 := blk_farRow (C := clA (setG a true)) (g' := w.heap.size + 1 + 1) kA.drew (by omega)
    have kB7 := blk_farRow (C := clA (setG a true)) (g' := w.heap.size + 1 + 1) kB.drew (by omega)
    refine wp_region_bush (fun W => Blk W w.heap.size 56 (clA (setG a true)) ∧ Blk W (w.heap.size + 1) 56 (clA (setG b true))) [0] 4 [] [5] (by kernel_rfl) (by kernel_rfl) (fun _ d _ _ _ h => by cases d <;> exact h) ⟨kA.drew, kB.drew⟩ ?_
    simp only [pick, List.drop_zero, List.head?_cons, Option.toList_some, List.append_nil]
    refine wpHeld_step ?_ rfl ?_ ?_
    rotate_left
    · intro W hW; refine exec_load_cl (x := .tmp 2) ?_ ?_ hW.1 <;> rfl
    refine wpHeld_nil ?_
    have kA6 := kA.drew
    have kB6 := kB.drew
    generalize w5.drew = w6 at *
    generalize w6.setRow (w.heap.size + 1 + 1) (clA (setG a true)) = w7 at *
    clear kA kB kR hb
    have hlv := run_loadVar_row (P := Try.prog) _ _ 56 56 _ (0, 0) _ kR7 Try.underlying56 rfl (by rw [hcz]; kernel_rfl)
    clear kR7 HMG hz
    refine wpBush_three 1 2 4 (by kernel_rfl) ?_ ?_ ?_
    · simp only [pick, List.drop_succ_cons, List.drop_zero, List.head?_cons, Option.toList_some, List.append_nil]
      refine load_cl rfl (x := .tmp 2) rfl rfl kA6 ?_
      go_wp2_with fail
      refine ⟨⟨kA6, kB6⟩, ?_⟩
      refine wpBush_two 2 4 (by kernel_rfl) ?_ ?_
      · simp only [pick, List.drop_succ_cons, List.drop_zero, List.head?_cons, Option.toList_some, List.append_nil]
        refine load_cl rfl (x := .tmp 3) rfl rfl kB6 ?_
        go_wp2_with fail
        refine ⟨⟨kA6, kB6⟩, ?_⟩
        refine wpBush_two 3 4 (by kernel_rfl) ?_ ?_
        · simp only [pick, List.drop_succ_cons, List.drop_zero, List.head?_cons, Option.toList_some, List.append_nil]
          go_wp2_with fail
          refine ⟨⟨kA6, kB6⟩, ?_⟩
          refine wpBush_one 4 (by kernel_rfl) ?_
          · simp only [pick, List.drop_succ_cons, List.drop_zero, List.head?_cons, Option.toList_some, List.append_nil]
            go_wp2_with fail
            refine ⟨⟨kA7, kB7⟩, ?_⟩
            refine wpBush_end (by kernel_rfl) (by kernel_rfl) (by kernel_rfl) ?_
            simp only [pick, List.drop_succ_cons, List.drop_zero, List.head?_cons, Option.toList_some, List.append_nil]
            refine wpHeld_nil ?_
            go_wp2_with fail
            exact bodyPost_ret (v := .tuple #[.agg (clA (setG a true)), .bool R]) (by simp [results, Try.results60, asAddr, hlv]) rfl ⟨rfl, hb7⟩
        · simp only [pick, List.drop_succ_cons, List.drop_zero, List.head?_cons, Option.toList_some, List.append_nil]
          go_wp2_with fail
          refine ⟨⟨kA7, kB7⟩, ?_⟩
          refine wpBush_one 3 (by kernel_rfl) ?_
          · simp only [pick, List.drop_succ_cons, List.drop_zero, List.head?_cons, Option.toList_some, List.append_nil]
            go_wp2_with fail
            refine ⟨⟨kA7, kB7⟩, ?_⟩
            refine wpBush_end (by kernel_rfl) (by kernel_rfl) (by kernel_rfl) ?_
            simp only [pick, List.drop_succ_cons, List.drop_zero, List.head?_cons, Option.toList_some, List.append_nil]
            refine wpHeld_nil ?_
            go_wp2_with fail
            exact bodyPost_ret (v := .tuple #[.agg (clA (setG a true)), .bool R]) (by simp [results, Try.results60, asAddr, hlv]) rfl ⟨rfl, hb7⟩
      · simp only [pick, List.drop_succ_cons, List.drop_zero, List.head?_cons, Option.toList_some, List.append_nil]
        go_wp2_with fail
        refine ⟨⟨kA7, kB7⟩, ?_⟩
        refine wpBush_one 2 (by kernel_rfl) ?_
        · simp only [pick, List.drop_succ_cons, List.drop_zero, List.head?_cons, Option.toList_some, List.append_nil]
          refine load_cl rfl (x := .tmp 3) rfl rfl kB7 ?_
          go_wp2_with fail
          refine ⟨⟨kA7, kB7⟩, ?_⟩
          refine wpBush_one 3 (by kernel_rfl) ?_
          · simp only [pick, List.drop_succ_cons, List.drop_zero, List.head?_cons, Option.toList_some, List.append_nil]
            go_wp2_with fail
            refine ⟨⟨kA7, kB7⟩, ?_⟩
            refine wpBush_end (by kernel_rfl) (by kernel_rfl) (by kernel_rfl) ?_
            simp only [pick, List.drop_succ_cons, List.drop_zero, List.head?_cons, Option.toList_some, List.append_nil]
            refine wpHeld_nil ?_
            go_wp2_with fail
            exact bodyPost_ret (v := .tuple #[.agg (clA (setG a true)), .bool R]) (by simp [results, Try.results60, asAddr, hlv]) rfl ⟨rfl, hb7⟩
    · simp only [pick, List.drop_succ_cons, List.drop_zero, List.head?_cons, Option.toList_some, List.append_nil]
      refine load_cl rfl (x := .tmp 3) rfl rfl kB6 ?_
      go_wp2_with fail
      refine ⟨⟨kA6, kB6⟩, ?_⟩
      refine wpBush_two 1 4 (by kernel_rfl) ?_ ?_
      · simp only [pick, List.drop_succ_cons, List.drop_zero, List.head?_cons, Option.toList_some, List.append_nil]
        refine load_cl rfl (x := .tmp 2) rfl rfl kA6 ?_
        go_wp2_with fail
        refine ⟨⟨kA6, kB6⟩, ?_⟩
        refine wpBush_two 3 4 (by kernel_rfl) ?_ ?_
        · simp only [pick, List.drop_succ_cons, List.drop_zero, List.head?_cons, Option.toList_some, List.append_nil]
          go_wp2_with fail
          refine ⟨⟨kA6, kB6⟩, ?_⟩
          refine wpBush_one 4 (by kernel_rfl) ?_
          · simp only [pick, List.drop_succ_cons, List.drop_zero, List.head?_cons, Option.toList_some, List.append_nil]
            go_wp2_with fail
            refine ⟨⟨kA7, kB7⟩, ?_⟩
            refine wpBush_end (by kernel_rfl) (by kernel_rfl) (by kernel_rfl) ?_
            simp only [pick, List.drop_succ_cons, List.drop_zero, List.head?_cons, Option.toList_some, List.append_nil]
            refine wpHeld_nil ?_
            go_wp2_with fail
            exact bodyPost_ret (v := .tuple #[.agg (clA (setG a true)), .bool R]) (by simp [results, Try.results60, asAddr, hlv]) rfl ⟨rfl, hb7⟩
        · simp only [pick, List.drop_succ_cons, List.drop_zero, List.head?_cons, Option.toList_some, List.append_nil]
          go_wp2_with fail
          refine ⟨⟨kA7, kB7⟩, ?_⟩
          refine wpBush_one 3 (by kernel_rfl) ?_
          · simp only [pick, List.drop_succ_cons, List.drop_zero, List.head?_cons, Option.toList_some, List.append_nil]
            go_wp2_with fail
            refine ⟨⟨kA7, kB7⟩, ?_⟩
            refine wpBush_end (by kernel_rfl) (by kernel_rfl) (by kernel_rfl) ?_
            simp only [pick, List.drop_succ_cons, List.drop_zero, List.head?_cons, Option.toList_some, List.append_nil]
            refine wpHeld_nil ?_
            go_wp2_with fail
            exact bodyPost_ret (v := .tuple #[.agg (clA (setG a true)), .bool R]) (by simp [results, Try.results60, asAddr, hlv]) rfl ⟨rfl, hb7⟩
      · simp only [pick, List.drop_succ_cons, List.drop_zero, List.head?_cons, Option.toList_some, List.append_nil]
        go_wp2_with fail
        refine ⟨⟨kA7, kB7⟩, ?_⟩
        refine wpBush_one 1 (by kernel_rfl) ?_
        · simp only [pick, List.drop_succ_cons, List.drop_zero, List.head?_cons, Option.toList_some, List.append_nil]
          refine load_cl rfl (x := .tmp 2) rfl rfl kA7 ?_
          go_wp2_with fail
          refine ⟨⟨kA7, kB7⟩, ?_⟩
          refine wpBush_one 3 (by kernel_rfl) ?_
          · simp only [pick, List.drop_succ_cons, List.drop_zero, List.head?_cons, Option.toList_some, List.append_nil]
            go_wp2_with fail
            refine ⟨⟨kA7, kB7⟩, ?_⟩
            refine wpBush_end (by kernel_rfl) (by kernel_rfl) (by kernel_rfl) ?_
            simp only [pick, List.drop_succ_cons, List.drop_zero, List.head?_cons, Option.toList_some, List.append_nil]
            refine wpHeld_nil ?_
            go_wp2_with fail
            exact bodyPost_ret (v := .tuple #[.agg (clA (setG a true)), .bool R]) (by simp [results, Try.results60, asAddr, hlv]) rfl ⟨rfl, hb7⟩
    · simp only [pick, List.drop_succ_cons, List.drop_zero, List.head?_cons, Option.toList_some, List.append_nil]
      go_wp2_with fail
      refine ⟨⟨kA7, kB7⟩, ?_⟩
      refine wpBush_two 1 2 (by kernel_rfl) ?_ ?_
      · simp only [pick, List.drop_succ_cons, List.drop_zero, List.head?_cons, Option.toList_some, List.append_nil]
        refine load_cl rfl (x := .tmp 2) rfl rfl kA7 ?_
        go_wp2_with fail
        refine ⟨⟨kA7, kB7⟩, ?_⟩
        refine wpBush_one 2 (by kernel_rfl) ?_
        · simp only [pick, List.drop_succ_cons, List.drop_zero, List.head?_cons, Option.toList_some, List.append_nil]
          refine load_cl rfl (x := .tmp 3) rfl rfl kB7 ?_
          go_wp2_with fail
          refine ⟨⟨kA7, kB7⟩, ?_⟩
          refine wpBush_one 3 (by kernel_rfl) ?_
          · simp only [pick, List.drop_succ_cons, List.drop_zero, List.head?_cons, Option.toList_some, List.append_nil]
            go_wp2_with fail
            refine ⟨⟨kA7, kB7⟩, ?_⟩
            refine wpBush_end (by kernel_rfl) (by kernel_rfl) (by kernel_rfl) ?_
            simp only [pick, List.drop_succ_cons, List.drop_zero, List.head?_cons, Option.toList_some, List.append_nil]
            refine wpHeld_nil ?_
            go_wp2_with fail
            exact bodyPost_ret (v := .tuple #[.agg (clA (setG a true)), .bool R]) (by simp [results, Try.results60, asAddr, hlv]) rfl ⟨rfl, hb7⟩
      · simp only [pick, List.drop_succ_cons, List.drop_zero, List.head?_cons, Option.toList_some, List.append_nil]
        refine load_cl rfl (x := .tmp 3) rfl rfl kB7 ?_
        go_wp2_with fail
        refine ⟨⟨kA7, kB7⟩, ?_⟩
        refine wpBush_one 1 (by kernel_rfl) ?_
        · simp only [pick, List.drop_succ_cons, List.drop_zero, List.head?_cons, Option.toList_some, List.append_nil]
          refine load_cl rfl (x := .tmp 2) rfl rfl kA7 ?_
          go_wp2_with fail
          refine ⟨⟨kA7, kB7⟩, ?_⟩
          refine wpBush_one 3 (by kernel_rfl) ?_
          · simp only [pick, List.drop_succ_cons, List.drop_zero, List.head?_cons, Option.toList_some, List.append_nil]
            go_wp2_with fail
            refine ⟨⟨kA7, kB7⟩, ?_⟩
            refine wpBush_end (by kernel_rfl) (by kernel_rfl) (by kernel_rfl) ?_
            simp only [pick, List.drop_succ_cons, List.drop_zero, List.head?_cons, Option.toList_some, List.append_nil]
            refine wpHeld_nil ?_
            go_wp2_with fail
            exact bodyPost_ret (v := .tuple #[.agg (clA (setG a true)), .bool R]) (by simp [results, Try.results60, asAddr, hlv]) rfl ⟨rfl, hb7⟩
  | false =>
    rw [hga] at ca HGG
    rw [show b.gone = G from HGG.out] at cb
    clear hga fin HGG
    go_upto_region 3 with fail
    obtain ⟨kA, kB, kR, hb⟩ := HCUT.out _ rfl
    clear ca cb fa fb HCUT
    generalize (w3.setCell ⟨w.heap.size, 19, none⟩ (.bool G)).setCell ⟨w.heap.size + 1, 19, none⟩ (.bool G) = w5 at *
    have hz : (#[.int .i64 0, .int .i64 0, .int .i64 0, .int .i64 0, .int .i64 0, .string ⟨#[]⟩, .string ⟨#[]⟩, .string ⟨#[]⟩, .string ⟨#[]⟩, .int .i64 0, .string ⟨#[]⟩, .string ⟨#[]⟩, .string ⟨#[]⟩, .string ⟨#[]⟩, .string ⟨#[]⟩, .bool false, .int .i64 0, .string ⟨#[]⟩, .string ⟨#[]⟩, .bool false] : Array Value).size = 20 := rfl
    have heq : ∀ W : World, (Op.equalIn 10000 56 (.agg (clA (setG a G))) (.agg (clA (setG b G)))).run Try.prog W = .ok R W := fun W => by rw [eq_cl, HMG.out]
    have hcz := clA_size (setG a G)
    have st := blk_store kR.drew hz (setG a G)
    have kR7 := blk_setRow (C := clA (setG a G)) kR.drew
    have hb7 := below_setRow (g := w.heap.size + 1 + 1) (clA (setG a G)) hb.drew (by omega)
    have kA7 := blk_farRow (C := clA (setG a G)) (g' := w.heap.size + 1 + 1) kA.drew (by omega)
    have kB7 := blk_farRow (C := clA (setG a G)) (g' := w.heap.size + 1 + 1) kB.drew (by omega)
    refine wp_region_bush (fun W => Blk W w.heap.size 56 (clA (setG a G)) ∧ Blk W (w.heap.size + 1) 56 (clA (setG b G))) [0] 4 [] [5] (by kernel_rfl) (by kernel_rfl) (fun _ d _ _ _ h => by cases d <;> exact h) ⟨kA.drew, kB.drew⟩ ?_
    simp only [pick, List.drop_zero, List.head?_cons, Option.toList_some, List.append_nil]
    refine wpHeld_step ?_ rfl ?_ ?_
    rotate_left
    · intro W hW; refine exec_load_cl (x := .tmp 2) ?_ ?_ hW.1 <;> rfl
    refine wpHeld_nil ?_
    have kA6 := kA.drew
    have kB6 := kB.drew
    generalize w5.drew = w6 at *
    generalize w6.setRow (w.heap.size + 1 + 1) (clA (setG a G)) = w7 at *
    clear kA kB kR hb
    have hlv := run_loadVar_row (P := Try.prog) _ _ 56 56 _ (0, 0) _ kR7 Try.underlying56 rfl (by rw [hcz]; kernel_rfl)
    clear kR7 HMG hz
    refine wpBush_three 1 2 4 (by kernel_rfl) ?_ ?_ ?_
    · simp only [pick, List.drop_succ_cons, List.drop_zero, List.head?_cons, Option.toList_some, List.append_nil]
      refine load_cl rfl (x := .tmp 2) rfl rfl kA6 ?_
      go_wp2_with fail
      refine ⟨⟨kA6, kB6⟩, ?_⟩
      refine wpBush_two 2 4 (by kernel_rfl) ?_ ?_
      · simp only [pick, List.drop_succ_cons, List.drop_zero, List.head?_cons, Option.toList_some, List.append_nil]
        refine load_cl rfl (x := .tmp 3) rfl rfl kB6 ?_
        go_wp2_with fail
        refine ⟨⟨kA6, kB6⟩, ?_⟩
        refine wpBush_two 3 4 (by kernel_rfl) ?_ ?_
        · simp only [pick, List.drop_succ_cons, List.drop_zero, List.head?_cons, Option.toList_some, List.append_nil]
          go_wp2_with fail
          refine ⟨⟨kA6, kB6⟩, ?_⟩
          refine wpBush_one 4 (by kernel_rfl) ?_
          · simp only [pick, List.drop_succ_cons, List.drop_zero, List.head?_cons, Option.toList_some, List.append_nil]
            go_wp2_with fail
            refine ⟨⟨kA7, kB7⟩, ?_⟩
            refine wpBush_end (by kernel_rfl) (by kernel_rfl) (by kernel_rfl) ?_
            simp only [pick, List.drop_succ_cons, List.drop_zero, List.head?_cons, Option.toList_some, List.append_nil]
            refine wpHeld_nil ?_
            go_wp2_with fail
            exact bodyPost_ret (v := .tuple #[.agg (clA (setG a G)), .bool R]) (by simp [results, Try.results60, asAddr, hlv]) rfl ⟨rfl, hb7⟩
        · simp only [pick, List.drop_succ_cons, List.drop_zero, List.head?_cons, Option.toList_some, List.append_nil]
          go_wp2_with fail
          refine ⟨⟨kA7, kB7⟩, ?_⟩
          refine wpBush_one 3 (by kernel_rfl) ?_
          · simp only [pick, List.drop_succ_cons, List.drop_zero, List.head?_cons, Option.toList_some, List.append_nil]
            go_wp2_with fail
            refine ⟨⟨kA7, kB7⟩, ?_⟩
            refine wpBush_end (by kernel_rfl) (by kernel_rfl) (by kernel_rfl) ?_
            simp only [pick, List.drop_succ_cons, List.drop_zero, List.head?_cons, Option.toList_some, List.append_nil]
            refine wpHeld_nil ?_
            go_wp2_with fail
            exact bodyPost_ret (v := .tuple #[.agg (clA (setG a G)), .bool R]) (by simp [results, Try.results60, asAddr, hlv]) rfl ⟨rfl, hb7⟩
      · simp only [pick, List.drop_succ_cons, List.drop_zero, List.head?_cons, Option.toList_some, List.append_nil]
        go_wp2_with fail
        refine ⟨⟨kA7, kB7⟩, ?_⟩
        refine wpBush_one 2 (by kernel_rfl) ?_
        · simp only [pick, List.drop_succ_cons, List.drop_zero, List.head?_cons, Option.toList_some, List.append_nil]
          refine load_cl rfl (x := .tmp 3) rfl rfl kB7 ?_
          go_wp2_with fail
          refine ⟨⟨kA7, kB7⟩, ?_⟩
          refine wpBush_one 3 (by kernel_rfl) ?_
          · simp only [pick, List.drop_succ_cons, List.drop_zero, List.head?_cons, Option.toList_some, List.append_nil]
            go_wp2_with fail
            refine ⟨⟨kA7, kB7⟩, ?_⟩
            refine wpBush_end (by kernel_rfl) (by kernel_rfl) (by kernel_rfl) ?_
            simp only [pick, List.drop_succ_cons, List.drop_zero, List.head?_cons, Option.toList_some, List.append_nil]
            refine wpHeld_nil ?_
            go_wp2_with fail
            exact bodyPost_ret (v := .tuple #[.agg (clA (setG a G)), .bool R]) (by simp [results, Try.results60, asAddr, hlv]) rfl ⟨rfl, hb7⟩
    · simp only [pick, List.drop_succ_cons, List.drop_zero, List.head?_cons, Option.toList_some, List.append_nil]
      refine load_cl rfl (x := .tmp 3) rfl rfl kB6 ?_
      go_wp2_with fail
      refine ⟨⟨kA6, kB6⟩, ?_⟩
      refine wpBush_two 1 4 (by kernel_rfl) ?_ ?_
      · simp only [pick, List.drop_succ_cons, List.drop_zero, List.head?_cons, Option.toList_some, List.append_nil]
        refine load_cl rfl (x := .tmp 2) rfl rfl kA6 ?_
        go_wp2_with fail
        refine ⟨⟨kA6, kB6⟩, ?_⟩
        refine wpBush_two 3 4 (by kernel_rfl) ?_ ?_
        · simp only [pick, List.drop_succ_cons, List.drop_zero, List.head?_cons, Option.toList_some, List.append_nil]
          go_wp2_with fail
          refine ⟨⟨kA6, kB6⟩, ?_⟩
          refine wpBush_one 4 (by kernel_rfl) ?_
          · simp only [pick, List.drop_succ_cons, List.drop_zero, List.head?_cons, Option.toList_some, List.append_nil]
            go_wp2_with fail
            refine ⟨⟨kA7, kB7⟩, ?_⟩
            refine wpBush_end (by kernel_rfl) (by kernel_rfl) (by kernel_rfl) ?_
            simp only [pick, List.drop_succ_cons, List.drop_zero, List.head?_cons, Option.toList_some, List.append_nil]
            refine wpHeld_nil ?_
            go_wp2_with fail
            exact bodyPost_ret (v := .tuple #[.agg (clA (setG a G)), .bool R]) (by simp [results, Try.results60, asAddr, hlv]) rfl ⟨rfl, hb7⟩
        · simp only [pick, List.drop_succ_cons, List.drop_zero, List.head?_cons, Option.toList_some, List.append_nil]
          go_wp2_with fail
          refine ⟨⟨kA7, kB7⟩, ?_⟩
          refine wpBush_one 3 (by kernel_rfl) ?_
          · simp only [pick, List.drop_succ_cons, List.drop_zero, List.head?_cons, Option.toList_some, List.append_nil]
            go_wp2_with fail
            refine ⟨⟨kA7, kB7⟩, ?_⟩
            refine wpBush_end (by kernel_rfl) (by kernel_rfl) (by kernel_rfl) ?_
            simp only [pick, List.drop_succ_cons, List.drop_zero, List.head?_cons, Option.toList_some, List.append_nil]
            refine wpHeld_nil ?_
            go_wp2_with fail
            exact bodyPost_ret (v := .tuple #[.agg (clA (setG a G)), .bool R]) (by simp [results, Try.results60, asAddr, hlv]) rfl ⟨rfl, hb7⟩
      · simp only [pick, List.drop_succ_cons, List.drop_zero, List.head?_cons, Option.toList_some, List.append_nil]
        go_wp2_with fail
        refine ⟨⟨kA7, kB7⟩, ?_⟩
        refine wpBush_one 1 (by kernel_rfl) ?_
        · simp only [pick, List.drop_succ_cons, List.drop_zero, List.head?_cons, Option.toList_some, List.append_nil]
          refine load_cl rfl (x := .tmp 2) rfl rfl kA7 ?_
          go_wp2_with fail
          refine ⟨⟨kA7, kB7⟩, ?_⟩
          refine wpBush_one 3 (by kernel_rfl) ?_
          · simp only [pick, List.drop_succ_cons, List.drop_zero, List.head?_cons, Option.toList_some, List.append_nil]
            go_wp2_with fail
            refine ⟨⟨kA7, kB7⟩, ?_⟩
            refine wpBush_end (by kernel_rfl) (by kernel_rfl) (by kernel_rfl) ?_
            simp only [pick, List.drop_succ_cons, List.drop_zero, List.head?_cons, Option.toList_some, List.append_nil]
            refine wpHeld_nil ?_
            go_wp2_with fail
            exact bodyPost_ret (v := .tuple #[.agg (clA (setG a G)), .bool R]) (by simp [results, Try.results60, asAddr, hlv]) rfl ⟨rfl, hb7⟩
    · simp only [pick, List.drop_succ_cons, List.drop_zero, List.head?_cons, Option.toList_some, List.append_nil]
      go_wp2_with fail
      refine ⟨⟨kA7, kB7⟩, ?_⟩
      refine wpBush_two 1 2 (by kernel_rfl) ?_ ?_
      · simp only [pick, List.drop_succ_cons, List.drop_zero, List.head?_cons, Option.toList_some, List.append_nil]
        refine load_cl rfl (x := .tmp 2) rfl rfl kA7 ?_
        go_wp2_with fail
        refine ⟨⟨kA7, kB7⟩, ?_⟩
        refine wpBush_one 2 (by kernel_rfl) ?_
        · simp only [pick, List.drop_succ_cons, List.drop_zero, List.head?_cons, Option.toList_some, List.append_nil]
          refine load_cl rfl (x := .tmp 3) rfl rfl kB7 ?_
          go_wp2_with fail
          refine ⟨⟨kA7, kB7⟩, ?_⟩
          refine wpBush_one 3 (by kernel_rfl) ?_
          · simp only [pick, List.drop_succ_cons, List.drop_zero, List.head?_cons, Option.toList_some, List.append_nil]
            go_wp2_with fail
            refine ⟨⟨kA7, kB7⟩, ?_⟩
            refine wpBush_end (by kernel_rfl) (by kernel_rfl) (by kernel_rfl) ?_
            simp only [pick, List.drop_succ_cons, List.drop_zero, List.head?_cons, Option.toList_some, List.append_nil]
            refine wpHeld_nil ?_
            go_wp2_with fail
            exact bodyPost_ret (v := .tuple #[.agg (clA (setG a G)), .bool R]) (by simp [results, Try.results60, asAddr, hlv]) rfl ⟨rfl, hb7⟩
      · simp only [pick, List.drop_succ_cons, List.drop_zero, List.head?_cons, Option.toList_some, List.append_nil]
        refine load_cl rfl (x := .tmp 3) rfl rfl kB7 ?_
        go_wp2_with fail
        refine ⟨⟨kA7, kB7⟩, ?_⟩
        refine wpBush_one 1 (by kernel_rfl) ?_
        · simp only [pick, List.drop_succ_cons, List.drop_zero, List.head?_cons, Option.toList_some, List.append_nil]
          refine load_cl rfl (x := .tmp 2) rfl rfl kA7 ?_
          go_wp2_with fail
          refine ⟨⟨kA7, kB7⟩, ?_⟩
          refine wpBush_one 3 (by kernel_rfl) ?_
          · simp only [pick, List.drop_succ_cons, List.drop_zero, List.head?_cons, Option.toList_some, List.append_nil]
            go_wp2_with fail
            refine ⟨⟨kA7, kB7⟩, ?_⟩
            refine wpBush_end (by kernel_rfl) (by kernel_rfl) (by kernel_rfl) ?_
            simp only [pick, List.drop_succ_cons, List.drop_zero, List.head?_cons, Option.toList_some, List.append_nil]
            refine wpHeld_nil ?_
            go_wp2_with fail
            exact bodyPost_ret (v := .tuple #[.agg (clA (setG a G)), .bool R]) (by simp [results, Try.results60, asAddr, hlv]) rfl ⟨rfl, hb7⟩
end Go.Proofs.Ytaicbllfkehhjaa
