/- The reference's Parse. -/
import Derived.Test.YtgfahifdmacmhaaGreatDoorZTYs
import Derived.Test.YtgfahifdmacmhaaGreatDoorZTGE
import Derived.Test.YtgfahifdmacmhaaGreatDoorZTGA
namespace Go.Proofs.YtgfahifdmacmhaaGreatDoor
open Go.RowKit Go.Shelf

/-- The lines of words, as they are read. -/
def TblAt (w : World) (B : Nat) (A : Option Addr) (ll : List (List Wd)) : Prop := ∀ (i : Nat) (L : List Wd), ll[i]? = some L → ∃ g A' c', A = some ⟨g, 0, none⟩ ∧ g < B ∧ w.cell? ⟨g, i, none⟩ = some (.slice A' L.length c') ∧ L.length ≤ c' ∧ StrsAt w B A' L
theorem TblAt.below {w w' : World} {B : Nat} {A : Option Addr} {ll : List (List Wd)} (h : TblAt w B A ll) (hb : Below B w w') : TblAt w' B A ll := fun i L hi => by
  obtain ⟨g, A', c', h1, h2, h3, h4, h5⟩ := h i L hi
  exact ⟨g, A', c', h1, h2, (hb.cell (p := ⟨g, i, none⟩) h2).trans h3, h4, h5.below hb⟩
theorem TblAt.of_own {w : World} {base : Nat} {A : Option Addr} {c n : Nat} {ll : List (List Wd)} {vs : List Value} (hn : ll.length = n) (h : w.ownsRow base 43 1 (.slice A n c) n vs) (hl : LinesAt w w.heap.size vs ll) : TblAt w w.heap.size A ll := fun i L hi => by
  have hlt := (List.getElem?_eq_some_iff.1 hi).1
  obtain ⟨A', c', h1, h2, h3⟩ := hl.2 i L hi
  rcases h.2 with ⟨_, h0⟩ | ⟨g, cap', cur, hv, _⟩
  · omega
  · injection hv with hA hc hcap
    subst hA
    exact ⟨g, A', c', rfl, (h.lt g (by simp [Value.ownBlock])).2, by rw [h.cellAt i (by omega)]; exact h1, h2, h3⟩
theorem tbl_row {w1 : World} {b1 g : Nat} {Wl : List (List Wd)} (h : TblAt w1 b1 (some ⟨g, 0, none⟩) Wl) {k : Nat} {L : List Wd} (hk : Wl[k]? = some L) (hL : L ≠ []) : ∃ g' o' c', L.length ≤ c' ∧ ∀ V, Below b1 w1 V → V.cell? ⟨g, k, none⟩ = some (.slice (some ⟨g', o', none⟩) L.length c') ∧ (∀ i s, L[i]? = some s → V.cell? ⟨g', o' + i, none⟩ = some (.string (bs s))) ∧ StrsAt V b1 (some ⟨g', o', none⟩) L := by
  obtain ⟨g2, A', c', h1, h2, h3, h4, h5⟩ := h k L hk
  injection h1 with h1
  injection h1 with r1 _ _
  subst r1
  obtain ⟨x, r, rfl⟩ := List.exists_cons_of_ne_nil hL
  obtain ⟨g', o', rfl, _, _⟩ := h5 0 x rfl
  refine ⟨g', o', c', h4, fun V hV => ⟨(hV.cell (p := ⟨g, k, none⟩) h2).trans h3, fun i s hi => ?_, h5.below hV⟩⟩
  obtain ⟨g3, o3, h6, _, h8⟩ := (h5.below hV) i s hi
  injection h6 with h6
  injection h6 with r1 r2 _
  subst r1 r2
  exact h8
/-- x[k:]. -/
theorem slice_from {P : Program} (t e : TypeId) (ht : P.underlying t = some (.slice e)) (hs : (P.info? e).map (·.size) = some 1) (g o len cap k : Nat) (i : Int) (hi : i = k) (hk : k ≤ len) (hc : len ≤ cap) :
    ∃ A : Option Addr, (∀ W : World, (Instr.slice t (.slice (some ⟨g, o, none⟩) len cap) (some (.int .i64 i)) none none).run P W = .ok (.slice A (len - k) (cap - k)) W) ∧
      ∀ (V : World) (B : Nat) (L : List Wd), L.length = len → StrsAt V B (some ⟨g, o, none⟩) L → StrsAt V B A (L.drop k) := by
  subst hi
  refine ⟨if cap = k then some ⟨g, o, none⟩ else some ⟨g, o + k, none⟩, fun W => ?_, fun V B L hl h i s hi => ?_⟩
  · have ht' : P.underlying t = some (.slice (P.elem t)) := by simp [Program.elem, ht]
    have he : P.elem t = e := by simp [Program.elem, ht]
    rw [run_slice_l W t _ len cap ht' .i64 (k : Int) (by omega) (by omega), he]
    cases hq : P.info? e with
    | none => simp [hq] at hs
    | some j =>
      have hj : j.size = 1 := by simpa [hq] using hs
      by_cases hck : cap = k
      · simp [sizeOf, typeInfo, hq, Result.andThen, sliced, hj, hck]
      · simp [sizeOf, typeInfo, hq, Result.andThen, sliced, hj, hck, Addr.add]
  · rw [List.getElem?_drop] at hi
    obtain ⟨g', o', h1, h2, h3⟩ := h (k + i) s hi
    injection h1 with h1
    injection h1 with r1 r2 _
    subst r1 r2
    have hlt := (List.getElem?_eq_some_iff.1 hi).1
    rw [if_neg (by omega)]
    exact ⟨g, o + k, rfl, h2, by rw [Nat.add_assoc]; exact h3⟩

def PS6 (w1 V : World) : Prop := Below w1.heap.size w1 V
def PC (X1 : ByteArray) (n1 : Int) (A8 : Option Addr) (nc c8 : Nat) (X2 : ByteArray) (n2 : Int) (A11 : Option Addr) (nm c11 : Nat) : Array Value := #[.string X1, .int .i64 n1, .slice A8 nc c8, .string X2, .int .i64 n2, .slice A11 nm c11, .slice none 0 0, .slice none 0 0]
def GoodC (base : Nat) (X1 : ByteArray) (n1 : Int) (nc : Nat) (cs : List Int) (X2 : ByteArray) (n2 : Int) (nm : Nat) (mv : List Int) (w : World) (C : Array Value) : Prop :=
  ∃ A8 c8 A11 c11, C = #[.string X1, .int .i64 n1, .slice A8 nc c8, .string X2, .int .i64 n2, .slice A11 nm c11, .slice none 0 0, .slice none 0 0] ∧ w.ownsRow base 3 1 (.slice A8 nc c8) nc (intCells cs) ∧ w.ownsRow base 3 1 (.slice A11 nm c11) nm (intCells mv)
section
variable {base : Nat} {X1 : ByteArray} {n1 : Int} {nc : Nat} {cs : List Int} {X2 : ByteArray} {n2 : Int} {nm : Nat} {mv : List Int} {w w' : World} {C : Array Value}
def RP (base : Nat) (X1 : ByteArray) (n1 : Int) (nc : Nat) (cs : List Int) (X2 : ByteArray) (n2 : Int) (nm : Nat) (mv : List Int) (w w' : World) : Prop :=
  Below w.heap.size w w' ∨ ∃ g old C, base ≤ g ∧ Blk w g 27 old ∧ old.size = 8 ∧ GoodC base X1 n1 nc cs X2 n2 nm mv w C ∧ w' = w.setRow g C
theorem own_self {e : TypeId} {size n : Nat} {v : Value} {xs : List Value} (o : w.ownsRow base e size v n xs) (h : Below w.heap.size w w') : w'.ownsRow base e size v n xs := (Only.of_below h (fun _ => False)).owns o (fun _ _ h => h)
theorem own_row {e t : TypeId} {size n g : Nat} {v : Value} {xs : List Value} {old : Array Value} (o : w.ownsRow base e size v n xs) (hb : Blk w g t old) (he : e ≠ t) (C : Array Value) : (w.setRow g C).ownsRow base e size v n xs :=
  (only_setRow w g C).owns o fun b hv e' => own_blk_ne o hb he (by rw [hv, e'])
theorem goodC_row {g : Nat} {old : Array Value} (hb : Blk w g 27 old) (D : Array Value) (h : GoodC base X1 n1 nc cs X2 n2 nm mv w C) : GoodC base X1 n1 nc cs X2 n2 nm mv (w.setRow g D) C := by
  obtain ⟨A8, c8, A11, c11, h1, h2, h3⟩ := h
  exact ⟨A8, c8, A11, c11, h1, own_row h2 hb (by decide) D, own_row h3 hb (by decide) D⟩
theorem goodC_self (h : GoodC base X1 n1 nc cs X2 n2 nm mv w C) (hb : Below w.heap.size w w') : GoodC base X1 n1 nc cs X2 n2 nm mv w' C := by
  obtain ⟨A8, c8, A11, c11, h1, h2, h3⟩ := h
  exact ⟨A8, c8, A11, c11, h1, own_self h2 hb, own_self h3 hb⟩
theorem goodC_rp {D : Array Value} (h : GoodC base X1 n1 nc cs X2 n2 nm mv w D) (hr : RP base X1 n1 nc cs X2 n2 nm mv w w') : GoodC base X1 n1 nc cs X2 n2 nm mv w' D := by
  rcases hr with hb | ⟨g, old, C, _, hb, _, _, rfl⟩
  · exact goodC_self h hb
  · exact goodC_row hb C h
def intV (base n : Nat) (l : List Int) : Phi := ⟨none, fun _ v w => ∃ A c, v = .slice A n c ∧ w.ownsRow base 3 1 (.slice A n c) n (intCells l)⟩
def aggV (base : Nat) (X1 : ByteArray) (n1 : Int) (nc : Nat) (cs : List Int) (X2 : ByteArray) (n2 : Int) (nm : Nat) (mv : List Int) : Phi := ⟨none, fun _ v w => ∃ C, v = .agg C ∧ GoodC base X1 n1 nc cs X2 n2 nm mv w C⟩
def memV (base : Nat) : Phi := ⟨none, fun _ v w => ∃ g cs, v = .pointer (some ⟨g, 0, none⟩) ∧ base ≤ g ∧ Blk w g 27 cs ∧ cs.size = 8⟩
def endV (base : Nat) (X1 : ByteArray) (n1 : Int) (nc : Nat) (cs : List Int) (X2 : ByteArray) (n2 : Int) (nm : Nat) (mv : List Int) : Phi := ⟨some 33, fun x _ w => ∃ g C, x = .pointer (some ⟨g, 0, none⟩) ∧ base ≤ g ∧ Blk w g 27 C ∧ GoodC base X1 n1 nc cs X2 n2 nm mv w C⟩
theorem intV_mono {n : Nat} {l : List Int} : ∀ x v w w', RP base X1 n1 nc cs X2 n2 nm mv w w' → (intV base n l).p x v w → (intV base n l).p x v w' := fun _ _ _ _ hr ⟨A, c, h1, h2⟩ => by
  refine ⟨A, c, h1, ?_⟩
  rcases hr with hb | ⟨g, old, C, _, hb, _, _, rfl⟩
  · exact own_self h2 hb
  · exact own_row h2 hb (by decide) C
theorem aggV_mono : ∀ x v w w', RP base X1 n1 nc cs X2 n2 nm mv w w' → (aggV base X1 n1 nc cs X2 n2 nm mv).p x v w → (aggV base X1 n1 nc cs X2 n2 nm mv).p x v w' := fun _ _ _ _ hr ⟨C, h1, h2⟩ => ⟨C, h1, goodC_rp h2 hr⟩
theorem memV_mono : ∀ x v w w', RP base X1 n1 nc cs X2 n2 nm mv w w' → (memV base).p x v w → (memV base).p x v w' := fun _ _ w _ hr ⟨g, D, h1, h2, h3, h4⟩ => by
  rcases hr with hb | ⟨g', old, C, _, hb, _, ⟨A8, c8, A11, c11, hC, _⟩, rfl⟩
  · exact ⟨g, D, h1, h2, h3.below hb h3.lt, h4⟩
  · by_cases hg : g = g'
    · subst hg
      exact ⟨g, C, h1, h2, setRow_heap w g old C _ _ hb, by rw [hC]; rfl⟩
    · exact ⟨g, D, h1, h2, (setRow_other w g' g C hg).trans h3, h4⟩
theorem endV_mono : ∀ x v w w', RP base X1 n1 nc cs X2 n2 nm mv w w' → (endV base X1 n1 nc cs X2 n2 nm mv).p x v w → (endV base X1 n1 nc cs X2 n2 nm mv).p x v w' := fun _ _ w _ hr ⟨g, D, h1, h2, h3, h4⟩ => by
  rcases hr with hb | ⟨g', old, C, _, hb, _, hC, rfl⟩
  · exact ⟨g, D, h1, h2, h3.below hb h3.lt, goodC_self h4 hb⟩
  · by_cases hg : g = g'
    · subst hg
      exact ⟨g, C, h1, h2, setRow_heap w g old C _ _ hb, goodC_row hb C hC⟩
    · exact ⟨g, D, h1, h2, (setRow_other w g' g C hg).trans h3, goodC_row hb C h4⟩
end
theorem rnums2_any (w : World) (B : Nat) (A0 : Option Addr) (l : List (List UInt8)) (c0 n : Nat) (hn : l.length = n) (h : StrsAt w B A0 l) (hB : B ≤ w.heap.size) (hs : ∀ s ∈ l, s.length ≤ 9223372036854775807) (hll : n ≤ 1000001) :
    Calls Tryz.prog 47 #[.slice A0 n c0] w fun e w' => ∃ A c, e = .returned (.slice A n c) ∧ w'.ownsRow w.heap.size 3 1 (.slice A n c) n (intCells (l.map numR)) ∧ Below w.heap.size w w' := by
  subst hn
  exact rnums_any w B A0 l c0 h hB hs hll
theorem prsR_len : ∀ l : List Int, (prsR l).length = l.length / 2
  | [] => rfl
  | [a] => by simp [prsR]
  | a :: b :: t => by
    show (prsR t).length + 1 = (t.length + 1 + 1) / 2
    rw [prsR_len t]
    omega
theorem prsR_at : ∀ (l : List Int) (j : Nat) (s : Stp2), (prsR l)[j]? = some s → l[2 * j]? = some s.1 ∧ l[2 * j + 1]? = some s.2
  | [], j, s, h => by simp [prsR] at h
  | [a], j, s, h => by simp [prsR] at h
  | a :: b :: t, 0, s, h => by
    have h' : some (a, b) = some s := h
    injection h' with h'
    subst h'
    exact ⟨rfl, rfl⟩
  | a :: b :: t, j + 1, s, h => by
    have ih := prsR_at t j s (by simpa [prsR] using h)
    rw [show 2 * (j + 1) = 2 * j + 1 + 1 by omega]
    exact ih
theorem own_cells {w : World} {base g n c : Nat} {l : List Int} (h : w.ownsRow base 3 1 (.slice (some ⟨g, 0, none⟩) n c) n (intCells l)) {i : Nat} {x : Int} (hi : l[i]? = some x) (hl : l.length = n) : w.cell? ⟨g, i, none⟩ = some (.int .i64 x) := by
  have hlt := (List.getElem?_eq_some_iff.1 hi).1
  rw [h.cellAt i (by omega)]
  unfold intCells
  rw [List.getElem?_map, hi]
  rfl
theorem wp_rowL {ops : Array Oper} {rest : List Oper} {o : Oper} {a : Act} {W : World} {Q : Exit → Act → World → Prop} (hgd : o.guard = none) (x y : Operand) (ho : o.op = .store 65 x y) (g : Nat) (C : Array Value)
    (hx : a.eval x = .pointer (some ⟨g, 0, none⟩)) (hy : a.eval y = .agg C) (hC : C.size = 5) (h1 : C.all (·.oneCell') = true) {old : Array Value} (hold : old.size = 5) (hb : Blk W g 65 old)
    (h : wpList Tryz.prog ops Q rest (a.put o.dst undef) (W.setRow g C)) : wpList Tryz.prog ops Q (o :: rest) a W :=
  wpList_store_row hgd 65 x y ho g C hx hy 65 old hb (by rw [hC]; kernel_rfl) (by rw [hC, hold]) h1 h
theorem one5 {a : ByteArray} {b c d : Int} {A : Option Addr} {n m : Nat} : (#[.string a, .int .i64 b, .int .i64 c, .int .i64 d, .slice A n m] : Array Value).all (·.oneCell') = true := by simp [Value.oneCell']
theorem getD_at {α : Type} {l : List α} {i : Nat} {x d : α} (h : l[i]? = some x) : l.getD i d = x := by rw [List.getD_eq_getElem?_getD, h]; rfl

def psP (w1 : World) (g N cA g0 o0 c0 : Nat) (X1 Y2 : ByteArray) (n1 : Int) (X2 Y4 : ByteArray) (n2 : Int) (g1 o1 l1 k1 : Nat) (A1 : Option Addr) (nc : Nat) (cs : List Int) (g2 o2 l2 k2 : Nat) (A2 : Option Addr) (nm : Nat) (mv : List Int) : List Phi := [
  isV (.slice (some ⟨g, 0, none⟩) N cA),
  isV (.pointer (some ⟨g, 0, none⟩)),
  isV (.slice (some ⟨g0, o0, none⟩) 5 c0),
  isV (.pointer (some ⟨g0, o0 + 1, none⟩)),
  isV (.string X1),
  isV (.slice (some ⟨g, 0, none⟩) N cA),
  isV (.pointer (some ⟨g, 0, none⟩)),
  isV (.slice (some ⟨g0, o0, none⟩) 5 c0),
  isV (.pointer (some ⟨g0, o0 + 2, none⟩)),
  isV (.string Y2),
  isV (.int .i64 n1),
  isV (.slice (some ⟨g, 0, none⟩) N cA),
  isV (.pointer (some ⟨g, 0, none⟩)),
  isV (.slice (some ⟨g0, o0, none⟩) 5 c0),
  isV (.pointer (some ⟨g0, o0 + 3, none⟩)),
  isV (.string X2),
  isV (.slice (some ⟨g, 0, none⟩) N cA),
  isV (.pointer (some ⟨g, 0, none⟩)),
  isV (.slice (some ⟨g0, o0, none⟩) 5 c0),
  isV (.pointer (some ⟨g0, o0 + 4, none⟩)),
  isV (.string Y4),
  isV (.int .i64 n2),
  isV (.slice (some ⟨g, 0, none⟩) N cA),
  isV (.pointer (some ⟨g, 1, none⟩)),
  isV (.slice (some ⟨g1, o1, none⟩) l1 k1),
  isV (.slice A1 nc (k1 - 1)),
  intV w1.heap.size nc cs,
  isV (.slice (some ⟨g, 0, none⟩) N cA),
  isV (.pointer (some ⟨g, 2, none⟩)),
  isV (.slice (some ⟨g2, o2, none⟩) l2 k2),
  isV (.slice A2 nm (k2 - 1)),
  intV w1.heap.size nm mv,
  aggV w1.heap.size X1 n1 nc cs X2 n2 nm mv,
  memV w1.heap.size,
  endV w1.heap.size X1 n1 nc cs X2 n2 nm mv]

set_option maxRecDepth 100000 in
set_option maxHeartbeats 8000000 in
theorem rparse_any (w : World) (t : List UInt8) (hl : t.length ≤ 1000000) (E : Int) (Z : Mt) (hE : (parseOk t = true → E = 0 ∧ Z = looseM t) ∧ (parseOk t = false → E = 5 ∧ Z = Mt.zero)) :
    Calls Tryz.prog 14 #[.string (bs t)] w (MtPost w E Z) := by
  obtain ⟨j0, hj0, hy0, hy1', hy2⟩ := info_parts Tryz.infoRight
  obtain ⟨i0, hi0, hz0, hz1, hz2⟩ := info_parts Tryz.infoStop
  obtain ⟨l0, hl0', hx0', hx1', hx2'⟩ := info_parts Tryz.infoLimit
  have HEZ := Lib.hid hE
  have HL := Lib.hid hl
  have hTs : (bs t).size ≤ 1000000 := by rw [bs_size]; exact hl
  have hTd : decide ((1000000 : Int) < ((bs t).size : Int)) = false := decide_eq_false (by omega)
  have hTI : ¬ (1000000 : Int) < ((bs t).size : Int) := by omega
  have hb0 := below_self_alloc w (.cells #[.string ⟨#[]⟩, .int .i64 0, .slice none 0 0, .string ⟨#[]⟩, .int .i64 0, .slice none 0 0, .slice none 0 0, .slice none 0 0] 27)
  have k0 := Blk.new w 27 #[.string ⟨#[]⟩, .int .i64 0, .slice none 0 0, .string ⟨#[]⟩, .int .i64 0, .slice none 0 0, .slice none 0 0, .slice none 0 0]
  clear hE hl
  go_enter Tryz.func14, Tryz.ntmps14
  go_upto_region 3 with fail
  generalize w.alloc (.cells #[.string ⟨#[]⟩, .int .i64 0, .slice none 0 0, .string ⟨#[]⟩, .int .i64 0, .slice none 0 0, .slice none 0 0, .slice none 0 0] 27) = W0 at *
  have hwd := words_any W0 t HL.out
  have HW := Lib.hid hwd
  have HB0 := Lib.hid hb0
  have K0 := Lib.hid k0
  clear hb0 k0 hwd hTs hTd hTI
  go_wp2_with fail
  refine HW.out.mono ?_
  rintro e w1 ⟨A, cA, vs, rfl, own, hla, b1⟩
  obtain ⟨Wl, hWl⟩ : ∃ W, wordsR t = W := ⟨_, rfl⟩
  obtain ⟨N, hN⟩ : ∃ n, Wl.length = n := ⟨_, rfl⟩
  have hok := Ws.ok _ t rfl
  have hNl : N ≤ 1000000 := by
    have h1 := hok.ls
    have h2 : (wordsR t).length = N := by rw [hWl, hN]
    have h3 : (wordsR t).length ≤ t.length := h1
    have := HL.out
    omega
  have hea : ∀ L ∈ Wl, L ≠ [] ∧ L.length ≤ 1000000 ∧ ∀ x ∈ L, x.length ≤ 1000000 := by
    rw [← hWl]
    intro L hL
    obtain ⟨a, b, d⟩ := hok.each L hL
    have := HL.out
    exact ⟨a, by omega, fun x hx => by have := d x hx; omega⟩
  rw [hWl, hN] at own
  rw [hWl] at hla
  have tbl := TblAt.of_own hN own hla
  have HB1 := Lib.hid (HB0.out.trans (b1.mono HB0.out.size))
  have KR1 := Lib.hid (K0.out.below b1 K0.out.lt)
  have H1 := Lib.hid (Below.refl w1.heap.size w1)
  have TBL := Lib.hid tbl
  have HWL := Lib.hid hWl
  have HN := Lib.hid hN
  have HEA := Lib.hid hea
  rw [hWl, hN]
  clear hok hea own hla tbl b1 hWl hN HB0 K0 HW
  go_upto_region 4 with fail
  by_cases h3 : N < 3
  case pos =>
    have d3 : decide ((N : Int) < 3) = true := decide_eq_true (by omega)
    have h3' : (N : Int) < 3 := by omega
    obtain ⟨rfl, rfl⟩ : E = 5 ∧ Z = Mt.zero := HEZ.out.2 (rparse_none (by unfold rLoose; rw [HWL.out, HN.out, if_pos (.inl h3)]))
    have kr := KR1.out.below H1.out KR1.out.lt
    have hlv := row_load kr #[.string ⟨#[]⟩, .int .i64 0, .slice none 0 0, .string ⟨#[]⟩, .int .i64 0, .slice none 0 0, .slice none 0 0, .slice none 0 0] rfl
    have HLV := Lib.hid hlv
    have HKR := Lib.hid kr
    have hfin := mt_err (w := w) (E := 5) (below_row (HB1.out.trans (H1.out.mono HB1.out.size)) (Nat.le_refl _) #[.string ⟨#[]⟩, .int .i64 0, .slice none 0 0, .string ⟨#[]⟩, .int .i64 0, .slice none 0 0, .slice none 0 0, .slice none 0 0])
    have HFIN := Lib.hid hfin
    clear hlv hfin kr
    go_wp2_with (refine wp_row rfl (.tmp 2) (.tmp 28) rfl w.heap.size #[.string ⟨#[]⟩, .int .i64 0, .slice none 0 0, .string ⟨#[]⟩, .int .i64 0, .slice none 0 0, .slice none 0 0, .slice none 0 0] rfl rfl rfl one8 rfl HKR.out ?_)
    exact bodyPost_ret (v := .tuple #[.agg #[.string ⟨#[]⟩, .int .i64 0, .slice none 0 0, .string ⟨#[]⟩, .int .i64 0, .slice none 0 0, .slice none 0 0, .slice none 0 0], .int .i64 5]) (by simp [results, Tryz.results14, asAddr, HLV.out]) rfl HFIN.out
  have d3 : decide ((N : Int) < 3) = false := decide_eq_false (by omega)
  have h3' : ¬ (N : Int) < 3 := by omega
  obtain ⟨L0, hL0⟩ : ∃ L, Wl[0]? = some L := ⟨_, List.getElem?_eq_getElem (by rw [HN.out]; omega)⟩
  obtain ⟨L1, hL1⟩ : ∃ L, Wl[1]? = some L := ⟨_, List.getElem?_eq_getElem (by rw [HN.out]; omega)⟩
  obtain ⟨L2, hL2⟩ : ∃ L, Wl[2]? = some L := ⟨_, List.getElem?_eq_getElem (by rw [HN.out]; omega)⟩
  obtain ⟨g, -, -, rfl, -⟩ := TBL.out 0 L0 hL0
  obtain ⟨m0, m0', m0''⟩ := HEA.out L0 (List.mem_of_getElem? hL0)
  obtain ⟨m1, m1', m1''⟩ := HEA.out L1 (List.mem_of_getElem? hL1)
  obtain ⟨m2, m2', m2''⟩ := HEA.out L2 (List.mem_of_getElem? hL2)
  obtain ⟨g0, o0, c0, p0, q0⟩ := tbl_row TBL.out hL0 m0
  obtain ⟨g1, o1, k1, p1, q1⟩ := tbl_row TBL.out hL1 m1
  obtain ⟨g2, o2, k2, p2, q2⟩ := tbl_row TBL.out hL2 m2
  have ib0 : (0 : Int) < (N : Int) := by omega
  have ib1 : (1 : Int) < (N : Int) := by omega
  have ib2 : (2 : Int) < (N : Int) := by omega
  by_cases h5 : L0.length = 5
  case neg =>
    have x0 := (q0 w1 H1.out).1
    have d5 : ((L0.length : Int) != 5) = true := by simp; omega
    have d5' : ((L0.length : Int) == 5) = false := by simp; omega
    have HL0 := Lib.hid hL0
    have H5 := Lib.hid h5
    clear q0 q1 q2 hL0 hL1 hL2 m0 m0' m0'' m1 m1' m1'' m2 m2' m2'' h5
    obtain ⟨rfl, rfl⟩ : E = 5 ∧ Z = Mt.zero := HEZ.out.2 (rparse_none (by unfold rLoose; rw [HWL.out, getD_at HL0.out, if_pos (.inr H5.out)]))
    have kr := KR1.out.below H1.out KR1.out.lt
    have hlv := row_load kr #[.string ⟨#[]⟩, .int .i64 0, .slice none 0 0, .string ⟨#[]⟩, .int .i64 0, .slice none 0 0, .slice none 0 0, .slice none 0 0] rfl
    have HLV := Lib.hid hlv
    have HKR := Lib.hid kr
    have hfin := mt_err (w := w) (E := 5) (below_row (HB1.out.trans (H1.out.mono HB1.out.size)) (Nat.le_refl _) #[.string ⟨#[]⟩, .int .i64 0, .slice none 0 0, .string ⟨#[]⟩, .int .i64 0, .slice none 0 0, .slice none 0 0, .slice none 0 0])
    have HFIN := Lib.hid hfin
    clear hlv hfin kr
    go_wp2_with (refine wp_row rfl (.tmp 2) (.tmp 28) rfl w.heap.size #[.string ⟨#[]⟩, .int .i64 0, .slice none 0 0, .string ⟨#[]⟩, .int .i64 0, .slice none 0 0, .slice none 0 0, .slice none 0 0] rfl rfl rfl one8 rfl HKR.out ?_)
    exact bodyPost_ret (v := .tuple #[.agg #[.string ⟨#[]⟩, .int .i64 0, .slice none 0 0, .string ⟨#[]⟩, .int .i64 0, .slice none 0 0, .slice none 0 0, .slice none 0 0], .int .i64 5]) (by simp [results, Tryz.results14, asAddr, HLV.out]) rfl HFIN.out
  obtain ⟨w0, r1, r2, r3, r4, e0⟩ : ∃ a b c d e, L0 = [a, b, c, d, e] := by
    match L0, h5 with
    | [a, b, c, d, e], _ => exact ⟨a, b, c, d, e, rfl⟩
  subst e0
  have hrd : ∀ V, Below w1.heap.size w1 V → V.cell? ⟨g, 0, none⟩ = some (.slice (some ⟨g0, o0, none⟩) 5 c0) ∧ V.cell? ⟨g, 1, none⟩ = some (.slice (some ⟨g1, o1, none⟩) L1.length k1) ∧ V.cell? ⟨g, 2, none⟩ = some (.slice (some ⟨g2, o2, none⟩) L2.length k2) ∧
      V.cell? ⟨g0, o0 + 1, none⟩ = some (.string (bs r1)) ∧ V.cell? ⟨g0, o0 + 2, none⟩ = some (.string (bs r2)) ∧ V.cell? ⟨g0, o0 + 3, none⟩ = some (.string (bs r3)) ∧ V.cell? ⟨g0, o0 + 4, none⟩ = some (.string (bs r4)) := fun V hV =>
    ⟨(q0 V hV).1, (q1 V hV).1, (q2 V hV).1, (q0 V hV).2.1 1 _ rfl, (q0 V hV).2.1 2 _ rfl, (q0 V hV).2.1 3 _ rfl, (q0 V hV).2.1 4 _ rfl⟩
  have hst1 := fun V hV => (q1 V hV).2.2
  have hst2 := fun V hV => (q2 V hV).2.2
  have hn1 := fun W => rnum31_any W r2 (by have := m0'' r2 (by simp); omega)
  have hn2 := fun W => rnum31_any W r4 (by have := m0'' r4 (by simp); omega)
  have x1l : (bs r1).size ≤ 1000000 := by rw [bs_size]; exact m0'' r1 (by simp)
  have x2l : (bs r3).size ≤ 1000000 := by rw [bs_size]; exact m0'' r3 (by simp)
  have hl1p : 1 ≤ L1.length := List.length_pos_iff.2 m1
  have hl2p : 1 ≤ L2.length := List.length_pos_iff.2 m2
  obtain ⟨A1, hs1, hs1'⟩ := slice_from (P := Tryz.prog) 43 9 Tryz.underlying43 (by kernel_rfl) g1 o1 L1.length k1 1 1 rfl hl1p p1
  obtain ⟨A2, hs2, hs2'⟩ := slice_from (P := Tryz.prog) 43 9 Tryz.underlying43 (by kernel_rfl) g2 o2 L2.length k2 1 1 rfl hl2p p2
  have hns1 := fun (W : World) (hW : Below w1.heap.size w1 W) => rnums2_any W w1.heap.size A1 (L1.drop 1) (k1 - 1) (L1.length - 1) (by simp) (hs1' W _ L1 rfl (hst1 W hW)) hW.size (fun s hs => by have := m1'' s (List.mem_of_mem_drop hs); omega) (by omega)
  have hns2 := fun (W : World) (hW : Below w1.heap.size w1 W) => rnums2_any W w1.heap.size A2 (L2.drop 1) (k2 - 1) (L2.length - 1) (by simp) (hs2' W _ L2 rfl (hst2 W hW)) hW.size (fun s hs => by have := m2'' s (List.mem_of_mem_drop hs); omega) (by omega)
  have hfm : ∀ rs ls, firstM Wl rs ls = ⟨bs r1, numR r2, (L1.drop 1).map numR, bs r3, numR r4, (L2.drop 1).map numR, rs, ls⟩ := fun rs ls => by
    unfold firstM
    rw [getD_at hL0, getD_at hL1, getD_at hL2]
    rfl
  have hlo : rLoose t = (rlines (Wl.drop 3) [] []).map fun p => firstM Wl p.1 p.2 := by
    unfold rLoose
    rw [HWL.out, getD_at hL0, if_neg (by rw [HN.out]; simp; omega)]
  obtain ⟨l1, e1⟩ : ∃ n, L1.length = n := ⟨_, rfl⟩
  obtain ⟨l2, e2⟩ : ∃ n, L2.length = n := ⟨_, rfl⟩
  obtain ⟨nc, e3⟩ : ∃ n, L1.length - 1 = n := ⟨_, rfl⟩
  obtain ⟨nm, e4⟩ : ∃ n, L2.length - 1 = n := ⟨_, rfl⟩
  obtain ⟨cs, e5⟩ : ∃ n, (L1.drop 1).map numR = n := ⟨_, rfl⟩
  obtain ⟨mv, e6⟩ : ∃ n, (L2.drop 1).map numR = n := ⟨_, rfl⟩
  have e7 : cs.length = nc := by rw [← e5, ← e3]; simp
  have e8 : mv.length = nm := by rw [← e6, ← e4]; simp
  rw [e3, e5] at hns1
  rw [e4, e6] at hns2
  rw [e3, e1] at hs1
  rw [e4, e2] at hs2
  rw [e1, e2] at hrd
  rw [e5, e6] at hfm
  have hncl : nc ≤ 1000000 := by omega
  have hnml : nm ≤ 1000000 := by omega
  generalize bs r1 = X1 at *
  generalize bs r3 = X2 at *
  generalize numR r2 = n1 at *
  generalize numR r4 = n2 at *
  generalize bs r2 = Y2 at *
  generalize bs r4 = Y4 at *
  have ib3 : (1 : Int) ≤ (l1 : Int) := by omega
  have ib4 : (1 : Int) ≤ (l2 : Int) := by omega
  have HRD := Lib.hid hrd
  have HN1 := Lib.hid hn1
  have HN2 := Lib.hid hn2
  have HNS1 := Lib.hid hns1
  have HNS2 := Lib.hid hns2
  have HFM := Lib.hid hfm
  have HLO := Lib.hid hlo
  have HCS := Lib.hid e7
  have HMV := Lib.hid e8
  have x00 := (hrd w1 H1.out).1
  clear q0 q1 q2 hL0 hL1 hL2 m0 m0' m0'' m1 m1' m1'' m2 m2' m2'' h5 hrd hst1 hst2 hn1 hn2 hns1 hns2 hs1' hs2' hfm hlo e1 e2 e3 e4 e5 e6 e7 e8 p0 p1 p2 hl1p hl2p
  go_upto_region 6 with fail
  clear x00
  refine wp_region_rg2 (PS6 w1) (RP w1.heap.size X1 n1 nc cs X2 n2 nm mv) (psP w1 g N cA g0 o0 c0 X1 Y2 n1 X2 Y4 n2 g1 o1 l1 k1 A1 nc cs g2 o2 l2 k2 A2 nm mv) [0, 1, 2, 3, 4, 5, 6, 7, 8, 9, 10, 11, 12, 13, 14, 15, 16, 17, 18, 19, 20, 21, 22, 23, 24, 25, 26, 27, 28, 29, 30, 31, 32, 33, 34] (by kernel_rfl) (by kernel_rfl) (by kernel_rfl) (H1.out.drew) ⟨isV_mono _, isV_mono _, isV_mono _, isV_mono _, isV_mono _, isV_mono _, isV_mono _, isV_mono _, isV_mono _, isV_mono _, isV_mono _, isV_mono _, isV_mono _, isV_mono _, isV_mono _, isV_mono _, isV_mono _, isV_mono _, isV_mono _, isV_mono _, isV_mono _, isV_mono _, isV_mono _, isV_mono _, isV_mono _, isV_mono _, intV_mono, isV_mono _, isV_mono _, isV_mono _, isV_mono _, intV_mono, aggV_mono, memV_mono, endV_mono, trivial⟩ ?_
  intro F hF
  simp only [putAll, List.map_cons, List.map_nil, Act.put, List.setIfInBounds_toArray, List.set_cons_succ, List.set_cons_zero] at hF
  have HFX := Lib.hid hF
  clear hF
  refine ⟨fun Q' => ⟨?_, ?_, ?_, ?_, ?_, ?_, ?_, ?_, ?_, ?_, ?_, ?_, ?_, ?_, ?_, ?_, ?_, ?_, ?_, ?_, ?_, ?_, ?_, ?_, ?_, ?_, ?_, ?_, ?_, ?_, ?_, ?_, ?_, ?_, ?_, trivial⟩, ?_⟩
  · intro u W hS hd hp
    have HS := Lib.hid hS
    clear hS
    rw [HFX.out]
    clear hd hp 
    go_wp2_with fail
    exact ⟨_, by rw [HFX.out]; simp [upd], rfl, HS.out, .inl (Below.refl _ _)⟩
  · intro u W hS hd hp
    have HS := Lib.hid hS
    clear hS
    obtain ⟨d0, -⟩ := hd
    have e0 : u 0 = .slice (some ⟨g, 0, none⟩) N cA := d0 rfl
    rw [HFX.out]
    simp only [e0]
    clear hp d0
    go_wp2_with fail
    exact ⟨_, by rw [HFX.out]; simp [upd, e0], rfl, HS.out, .inl (Below.refl _ _)⟩
  · intro u W hS hd hp
    have HS := Lib.hid hS
    clear hS
    obtain ⟨d1, -⟩ := hd
    have e1 : u 1 = .pointer (some ⟨g, 0, none⟩) := d1 rfl
    rw [HFX.out]
    simp only [e1]
    clear hp d1
    obtain ⟨r0, r1, r2, r3, r4, r5, r6⟩ := HRD.out W HS.out
    go_wp2_with fail
    exact ⟨_, by rw [HFX.out]; simp [upd, e1], rfl, HS.out, .inl (Below.refl _ _)⟩
  · intro u W hS hd hp
    have HS := Lib.hid hS
    clear hS
    obtain ⟨d2, -⟩ := hd
    have e2 : u 2 = .slice (some ⟨g0, o0, none⟩) 5 c0 := d2 rfl
    rw [HFX.out]
    simp only [e2]
    clear hp d2
    go_wp2_with fail
    exact ⟨_, by rw [HFX.out]; simp [upd, e2], rfl, HS.out, .inl (Below.refl _ _)⟩
  · intro u W hS hd hp
    have HS := Lib.hid hS
    clear hS
    obtain ⟨d3, -⟩ := hd
    have e3 : u 3 = .pointer (some ⟨g0, o0 + 1, none⟩) := d3 rfl
    rw [HFX.out]
    simp only [e3]
    clear hp d3
    obtain ⟨r0, r1, r2, r3, r4, r5, r6⟩ := HRD.out W HS.out
    go_wp2_with fail
    exact ⟨_, by rw [HFX.out]; simp [upd, e3], rfl, HS.out, .inl (Below.refl _ _)⟩
  · intro u W hS hd hp
    have HS := Lib.hid hS
    clear hS
    rw [HFX.out]
    clear hd hp 
    go_wp2_with fail
    exact ⟨_, by rw [HFX.out]; simp [upd], rfl, HS.out, .inl (Below.refl _ _)⟩
  · intro u W hS hd hp
    have HS := Lib.hid hS
    clear hS
    obtain ⟨d5, -⟩ := hd
    have e5 : u 5 = .slice (some ⟨g, 0, none⟩) N cA := d5 rfl
    rw [HFX.out]
    simp only [e5]
    clear hp d5
    go_wp2_with fail
    exact ⟨_, by rw [HFX.out]; simp [upd, e5], rfl, HS.out, .inl (Below.refl _ _)⟩
  · intro u W hS hd hp
    have HS := Lib.hid hS
    clear hS
    obtain ⟨d6, -⟩ := hd
    have e6 : u 6 = .pointer (some ⟨g, 0, none⟩) := d6 rfl
    rw [HFX.out]
    simp only [e6]
    clear hp d6
    obtain ⟨r0, r1, r2, r3, r4, r5, r6⟩ := HRD.out W HS.out
    go_wp2_with fail
    exact ⟨_, by rw [HFX.out]; simp [upd, e6], rfl, HS.out, .inl (Below.refl _ _)⟩
  · intro u W hS hd hp
    have HS := Lib.hid hS
    clear hS
    obtain ⟨d7, -⟩ := hd
    have e7 : u 7 = .slice (some ⟨g0, o0, none⟩) 5 c0 := d7 rfl
    rw [HFX.out]
    simp only [e7]
    clear hp d7
    go_wp2_with fail
    exact ⟨_, by rw [HFX.out]; simp [upd, e7], rfl, HS.out, .inl (Below.refl _ _)⟩
  · intro u W hS hd hp
    have HS := Lib.hid hS
    clear hS
    obtain ⟨d8, -⟩ := hd
    have e8 : u 8 = .pointer (some ⟨g0, o0 + 2, none⟩) := d8 rfl
    rw [HFX.out]
    simp only [e8]
    clear hp d8
    obtain ⟨r0, r1, r2, r3, r4, r5, r6⟩ := HRD.out W HS.out
    go_wp2_with fail
    exact ⟨_, by rw [HFX.out]; simp [upd, e8], rfl, HS.out, .inl (Below.refl _ _)⟩
  · intro u W hS hd hp
    have HS := Lib.hid hS
    clear hS
    obtain ⟨d9, -⟩ := hd
    have e9 : u 9 = .string Y2 := d9 rfl
    rw [HFX.out]
    simp only [e9]
    clear hp d9
    go_wp2_with fail
    refine (HN1.out W).mono ?_
    rintro e W2 ⟨rfl, rfl⟩
    go_wp2_with fail
    exact ⟨_, by rw [HFX.out]; simp [upd, e9], rfl, HS.out, .inl (Below.refl _ _)⟩
  · intro u W hS hd hp
    have HS := Lib.hid hS
    clear hS
    rw [HFX.out]
    clear hd hp 
    go_wp2_with fail
    exact ⟨_, by rw [HFX.out]; simp [upd], rfl, HS.out, .inl (Below.refl _ _)⟩
  · intro u W hS hd hp
    have HS := Lib.hid hS
    clear hS
    obtain ⟨d11, -⟩ := hd
    have e11 : u 11 = .slice (some ⟨g, 0, none⟩) N cA := d11 rfl
    rw [HFX.out]
    simp only [e11]
    clear hp d11
    go_wp2_with fail
    exact ⟨_, by rw [HFX.out]; simp [upd, e11], rfl, HS.out, .inl (Below.refl _ _)⟩
  · intro u W hS hd hp
    have HS := Lib.hid hS
    clear hS
    obtain ⟨d12, -⟩ := hd
    have e12 : u 12 = .pointer (some ⟨g, 0, none⟩) := d12 rfl
    rw [HFX.out]
    simp only [e12]
    clear hp d12
    obtain ⟨r0, r1, r2, r3, r4, r5, r6⟩ := HRD.out W HS.out
    go_wp2_with fail
    exact ⟨_, by rw [HFX.out]; simp [upd, e12], rfl, HS.out, .inl (Below.refl _ _)⟩
  · intro u W hS hd hp
    have HS := Lib.hid hS
    clear hS
    obtain ⟨d13, -⟩ := hd
    have e13 : u 13 = .slice (some ⟨g0, o0, none⟩) 5 c0 := d13 rfl
    rw [HFX.out]
    simp only [e13]
    clear hp d13
    go_wp2_with fail
    exact ⟨_, by rw [HFX.out]; simp [upd, e13], rfl, HS.out, .inl (Below.refl _ _)⟩
  · intro u W hS hd hp
    have HS := Lib.hid hS
    clear hS
    obtain ⟨d14, -⟩ := hd
    have e14 : u 14 = .pointer (some ⟨g0, o0 + 3, none⟩) := d14 rfl
    rw [HFX.out]
    simp only [e14]
    clear hp d14
    obtain ⟨r0, r1, r2, r3, r4, r5, r6⟩ := HRD.out W HS.out
    go_wp2_with fail
    exact ⟨_, by rw [HFX.out]; simp [upd, e14], rfl, HS.out, .inl (Below.refl _ _)⟩
  · intro u W hS hd hp
    have HS := Lib.hid hS
    clear hS
    rw [HFX.out]
    clear hd hp 
    go_wp2_with fail
    exact ⟨_, by rw [HFX.out]; simp [upd], rfl, HS.out, .inl (Below.refl _ _)⟩
  · intro u W hS hd hp
    have HS := Lib.hid hS
    clear hS
    obtain ⟨d16, -⟩ := hd
    have e16 : u 16 = .slice (some ⟨g, 0, none⟩) N cA := d16 rfl
    rw [HFX.out]
    simp only [e16]
    clear hp d16
    go_wp2_with fail
    exact ⟨_, by rw [HFX.out]; simp [upd, e16], rfl, HS.out, .inl (Below.refl _ _)⟩
  · intro u W hS hd hp
    have HS := Lib.hid hS
    clear hS
    obtain ⟨d17, -⟩ := hd
    have e17 : u 17 = .pointer (some ⟨g, 0, none⟩) := d17 rfl
    rw [HFX.out]
    simp only [e17]
    clear hp d17
    obtain ⟨r0, r1, r2, r3, r4, r5, r6⟩ := HRD.out W HS.out
    go_wp2_with fail
    exact ⟨_, by rw [HFX.out]; simp [upd, e17], rfl, HS.out, .inl (Below.refl _ _)⟩
  · intro u W hS hd hp
    have HS := Lib.hid hS
    clear hS
    obtain ⟨d18, -⟩ := hd
    have e18 : u 18 = .slice (some ⟨g0, o0, none⟩) 5 c0 := d18 rfl
    rw [HFX.out]
    simp only [e18]
    clear hp d18
    go_wp2_with fail
    exact ⟨_, by rw [HFX.out]; simp [upd, e18], rfl, HS.out, .inl (Below.refl _ _)⟩
  · intro u W hS hd hp
    have HS := Lib.hid hS
    clear hS
    obtain ⟨d19, -⟩ := hd
    have e19 : u 19 = .pointer (some ⟨g0, o0 + 4, none⟩) := d19 rfl
    rw [HFX.out]
    simp only [e19]
    clear hp d19
    obtain ⟨r0, r1, r2, r3, r4, r5, r6⟩ := HRD.out W HS.out
    go_wp2_with fail
    exact ⟨_, by rw [HFX.out]; simp [upd, e19], rfl, HS.out, .inl (Below.refl _ _)⟩
  · intro u W hS hd hp
    have HS := Lib.hid hS
    clear hS
    obtain ⟨d20, -⟩ := hd
    have e20 : u 20 = .string Y4 := d20 rfl
    rw [HFX.out]
    simp only [e20]
    clear hp d20
    go_wp2_with fail
    refine (HN2.out W).mono ?_
    rintro e W2 ⟨rfl, rfl⟩
    go_wp2_with fail
    exact ⟨_, by rw [HFX.out]; simp [upd, e20], rfl, HS.out, .inl (Below.refl _ _)⟩
  · intro u W hS hd hp
    have HS := Lib.hid hS
    clear hS
    rw [HFX.out]
    clear hd hp 
    go_wp2_with fail
    exact ⟨_, by rw [HFX.out]; simp [upd], rfl, HS.out, .inl (Below.refl _ _)⟩
  · intro u W hS hd hp
    have HS := Lib.hid hS
    clear hS
    obtain ⟨d22, -⟩ := hd
    have e22 : u 22 = .slice (some ⟨g, 0, none⟩) N cA := d22 rfl
    rw [HFX.out]
    simp only [e22]
    clear hp d22
    go_wp2_with fail
    exact ⟨_, by rw [HFX.out]; simp [upd, e22], rfl, HS.out, .inl (Below.refl _ _)⟩
  · intro u W hS hd hp
    have HS := Lib.hid hS
    clear hS
    obtain ⟨d23, -⟩ := hd
    have e23 : u 23 = .pointer (some ⟨g, 1, none⟩) := d23 rfl
    rw [HFX.out]
    simp only [e23]
    clear hp d23
    obtain ⟨r0, r1, r2, r3, r4, r5, r6⟩ := HRD.out W HS.out
    go_wp2_with fail
    exact ⟨_, by rw [HFX.out]; simp [upd, e23], rfl, HS.out, .inl (Below.refl _ _)⟩
  · intro u W hS hd hp
    have HS := Lib.hid hS
    clear hS
    obtain ⟨d24, -⟩ := hd
    have e24 : u 24 = .slice (some ⟨g1, o1, none⟩) l1 k1 := d24 rfl
    rw [HFX.out]
    simp only [e24]
    clear hp d24
    go_wp2_with fail
    exact ⟨_, by rw [HFX.out]; simp [upd, e24], rfl, HS.out, .inl (Below.refl _ _)⟩
  · intro u W hS hd hp
    have HS := Lib.hid hS
    clear hS
    obtain ⟨d25, -⟩ := hd
    have e25 : u 25 = .slice A1 nc (k1 - 1) := d25 rfl
    rw [HFX.out]
    simp only [e25]
    clear hp d25
    go_wp2_with fail
    refine (HNS1.out W HS.out).mono ?_
    rintro e W2 ⟨A5, c5, rfl, own, b2⟩
    go_wp2_with fail
    exact ⟨_, by rw [HFX.out]; simp [upd, e25], ⟨A5, c5, rfl, owns_low own HS.out.size⟩, HS.out.trans (b2.mono HS.out.size), .inl b2⟩
  · intro u W hS hd hp
    have HS := Lib.hid hS
    clear hS
    rw [HFX.out]
    clear hd hp 
    go_wp2_with fail
    exact ⟨_, by rw [HFX.out]; simp [upd], rfl, HS.out, .inl (Below.refl _ _)⟩
  · intro u W hS hd hp
    have HS := Lib.hid hS
    clear hS
    obtain ⟨d27, -⟩ := hd
    have e27 : u 27 = .slice (some ⟨g, 0, none⟩) N cA := d27 rfl
    rw [HFX.out]
    simp only [e27]
    clear hp d27
    go_wp2_with fail
    exact ⟨_, by rw [HFX.out]; simp [upd, e27], rfl, HS.out, .inl (Below.refl _ _)⟩
  · intro u W hS hd hp
    have HS := Lib.hid hS
    clear hS
    obtain ⟨d28, -⟩ := hd
    have e28 : u 28 = .pointer (some ⟨g, 2, none⟩) := d28 rfl
    rw [HFX.out]
    simp only [e28]
    clear hp d28
    obtain ⟨r0, r1, r2, r3, r4, r5, r6⟩ := HRD.out W HS.out
    go_wp2_with fail
    exact ⟨_, by rw [HFX.out]; simp [upd, e28], rfl, HS.out, .inl (Below.refl _ _)⟩
  · intro u W hS hd hp
    have HS := Lib.hid hS
    clear hS
    obtain ⟨d29, -⟩ := hd
    have e29 : u 29 = .slice (some ⟨g2, o2, none⟩) l2 k2 := d29 rfl
    rw [HFX.out]
    simp only [e29]
    clear hp d29
    go_wp2_with fail
    exact ⟨_, by rw [HFX.out]; simp [upd, e29], rfl, HS.out, .inl (Below.refl _ _)⟩
  · intro u W hS hd hp
    have HS := Lib.hid hS
    clear hS
    obtain ⟨d30, -⟩ := hd
    have e30 : u 30 = .slice A2 nm (k2 - 1) := d30 rfl
    rw [HFX.out]
    simp only [e30]
    clear hp d30
    go_wp2_with fail
    refine (HNS2.out W HS.out).mono ?_
    rintro e W2 ⟨A5, c5, rfl, own, b2⟩
    go_wp2_with fail
    exact ⟨_, by rw [HFX.out]; simp [upd, e30], ⟨A5, c5, rfl, owns_low own HS.out.size⟩, HS.out.trans (b2.mono HS.out.size), .inl b2⟩
  · intro u W hS hd hp
    have HS := Lib.hid hS
    clear hS
    obtain ⟨d4, d10, d15, d21, d26, d31, -⟩ := hd
    have e4 : u 4 = .string X1 := d4 rfl
    have e10 : u 10 = .int .i64 n1 := d10 rfl
    have e15 : u 15 = .string X2 := d15 rfl
    have e21 : u 21 = .int .i64 n2 := d21 rfl
    obtain ⟨AK26, cK26, e26, ow26⟩ : ∃ A c, u 26 = .slice A nc c ∧ W.ownsRow w1.heap.size 3 1 (.slice A nc c) nc (intCells cs) := d26 rfl
    obtain ⟨AK31, cK31, e31, ow31⟩ : ∃ A c, u 31 = .slice A nm c ∧ W.ownsRow w1.heap.size 3 1 (.slice A nm c) nm (intCells mv) := d31 rfl
    rw [HFX.out]
    simp only [e4, e10, e15, e21, e26, e31]
    clear hp d4 d10 d15 d21 d26 d31
    go_wp2_with fail
    exact ⟨_, by rw [HFX.out]; simp [upd, e4, e10, e15, e21, e26, e31], ⟨_, rfl, ⟨AK26, cK26, AK31, cK31, rfl, ow26, ow31⟩⟩, HS.out, .inl (Below.refl _ _)⟩
  · intro u W hS hd hp
    have HS := Lib.hid hS
    clear hS
    rw [HFX.out]
    clear hd hp 
    go_wp2_with fail
    exact ⟨_, by rw [HFX.out]; simp [upd], ⟨W.heap.size, _, rfl, HS.out.size, Blk.new W 27 #[.string ⟨#[]⟩, .int .i64 0, .slice none 0 0, .string ⟨#[]⟩, .int .i64 0, .slice none 0 0, .slice none 0 0, .slice none 0 0], rfl⟩, HS.out.alloc HS.out.size _, .inl (below_self_alloc _ _)⟩
  · intro u W hS hd hp
    have HS := Lib.hid hS
    clear hS
    obtain ⟨d33, d32, -⟩ := hd
    obtain ⟨g33, cs33, e33, gb33, kb33, sz33⟩ : ∃ g cs, u 33 = .pointer (some ⟨g, 0, none⟩) ∧ w1.heap.size ≤ g ∧ Blk W g 27 cs ∧ cs.size = 8 := d33 rfl
    obtain ⟨C32, e32, ⟨A8, c8, A11, c11, hC32, ow8, ow11⟩⟩ : ∃ C, u 32 = .agg C ∧ GoodC w1.heap.size X1 n1 nc cs X2 n2 nm mv W C := d32 rfl
    subst hC32
    rw [HFX.out]
    simp only [e33, e32]
    clear hp d33 d32
    go_wp2_with (refine wp_row rfl (.tmp 5) (.tmp 61) rfl g33 #[.string X1, .int .i64 n1, .slice A8 nc c8, .string X2, .int .i64 n2, .slice A11 nm c11, .slice none 0 0, .slice none 0 0] rfl rfl rfl one8 sz33 kb33 ?_)
    exact ⟨undef, by rw [HFX.out]; simp [upd, e33, e32], ⟨g33, _, e33, gb33, setRow_heap W g33 cs33 _ _ _ kb33, goodC_row kb33 _ ⟨A8, c8, A11, c11, rfl, ow8, ow11⟩⟩, below_row HS.out gb33 _, .inr ⟨g33, cs33, _, gb33, kb33, sz33, ⟨A8, c8, A11, c11, rfl, ow8, ow11⟩, rfl⟩⟩
  intro u W hS hf
  obtain ⟨gm, C6, e33, gbm, km, A8, c8, A11, c11, hC6, o8, o11⟩ : ∃ g C, u 33 = .pointer (some ⟨g, 0, none⟩) ∧ w1.heap.size ≤ g ∧ Blk W g 27 C ∧ GoodC w1.heap.size X1 n1 nc cs X2 n2 nm mv W C := hf 34 (by decide)
  subst hC6
  rw [HFX.out]
  simp only [e33]
  have h1 : Below w1.heap.size w1 W := hS
  clear H1
  have H1 := Lib.hid h1
  have KM := Lib.hid km
  have O8 := Lib.hid o8
  have O11 := Lib.hid o11
  clear hf HFX F hS e33 HRD HN1 HN2 HNS1 HNS2 hs1 hs2 h1 km o8 o11
  obtain ⟨RL, hRL⟩ : ∃ r, rlines (Wl.drop 3) [] [] = r := ⟨_, rfl⟩
  rw [hRL] at HLO
  have HRL := Lib.hid hRL
  clear hRL
  go_wp2_with fail
  go_loopg [6] (N - 3) (fun nn v wr => ∃ (k : Nat) (rs : List Rt) (lv : List LmV) (A6 : Option Addr) (c6 : Nat) (A7 : Option Addr) (c7 : Nat), k + nn = N ∧ 3 ≤ k ∧ v = .int .i64 (k : Int) ∧ Hid (rlines (Wl.drop k) rs (lv.map (·.1)) = RL) ∧ Hid (Below w1.heap.size w1 wr) ∧ Hid (Blk wr gm 27 #[.string X1, .int .i64 n1, .slice A8 nc c8, .string X2, .int .i64 n2, .slice A11 nm c11, .slice A6 rs.length c6, .slice A7 lv.length c7]) ∧ Hid (wr.ownsRow w1.heap.size 3 1 (.slice A8 nc c8) nc (intCells cs)) ∧ Hid (wr.ownsRow w1.heap.size 3 1 (.slice A11 nm c11) nm (intCells mv)) ∧ Hid (wr.ownsRow w1.heap.size 41 2 (.slice A6 rs.length c6) rs.length (rtCells rs)) ∧ Hid (wr.ownsRow w1.heap.size 65 5 (.slice A7 lv.length c7) lv.length (lmCells lv)) ∧ Hid (StpOK w1 wr lv) ∧ rs.length + lv.length ≤ k ∧ Hid (∀ r ∈ rs, r.1.size ≤ 1000000))
  case atStart => exact ⟨3, [], [], none, 0, none, 0, by omega, Nat.le_refl _, rfl, HRL, H1, KM, O8, O11, Lib.hid (World.ownsRow_nil _ _ _ _), Lib.hid (World.ownsRow_nil _ _ _ _), Lib.hid (StpOK.nil _ _), Nat.zero_le _, Lib.hid (by simp)⟩
  case round =>
    clear H1 KM O8 O11 HRL
    obtain ⟨k, rs, lv, A6, c6, A7, c7, hk, hk3, rfl, RLE, H1, KM, O8, O11, O6, O7, SO, hlen, RN⟩ := hrel
    by_cases hlt : k < N
    · obtain ⟨nk, rfl⟩ : ∃ m, gk = m + 1 := ⟨gk - 1, by omega⟩
      obtain ⟨L, hL⟩ : ∃ L, Wl[k]? = some L := ⟨_, List.getElem?_eq_getElem (by rw [HN.out]; exact hlt)⟩
      obtain ⟨mL, mL', mL''⟩ := HEA.out L (List.mem_of_getElem? hL)
      obtain ⟨g', o', c', pL, qL⟩ := tbl_row TBL.out hL mL
      obtain ⟨Y0, hY0⟩ : ∃ y, L[0]? = some y := ⟨_, List.getElem?_eq_getElem (List.length_pos_iff.2 mL)⟩
      have hrl := RLE.out
      have hdk : Wl.drop k = L :: Wl.drop (k + 1) := by
        obtain ⟨h1, h2⟩ := List.getElem?_eq_some_iff.1 hL
        rw [List.drop_eq_getElem_cons h1, h2]
      rw [hdk] at hrl
      unfold rlines at hrl
      have hn1 : 1 ≤ L.length := List.length_pos_iff.2 mL
      obtain ⟨n, hn⟩ : ∃ n, L.length = n := ⟨_, rfl⟩
      obtain ⟨X0, hX0⟩ : ∃ x, bs Y0 = x := ⟨_, rfl⟩
      rw [hn] at pL qL mL' hn1
      have x0 := (qL wr H1.out).1
      have x1 := (qL wr H1.out).2.1 0 _ hY0
      rw [Nat.add_zero, hX0] at x1
      have ib : (0 : Int) ≤ (k : Int) := by omega
      have ib' : (k : Int) < (N : Int) := by omega
      have jb : (0 : Int) < (n : Int) := by omega
      have HQL := Lib.hid qL
      have HX0 := Lib.hid hX0
      have HY0 := Lib.hid hY0
      have HNL := Lib.hid hn
      have HM := Lib.hid mL''
      clear hdk qL hX0 hY0 hn mL mL'' hL RLE
      have hg0 : L.getD 0 [] = Y0 := getD_at HY0.out
      unfold rightC at hrl
      rw [hg0] at hrl
      have hlc : limitC L = (decide (Y0 = limitW) && (decide (5 ≤ L.length) && decide (L.length % 2 = 1))) := by unfold limitC; rw [hg0]
      rw [hlc] at hrl
      clear hlc hg0
      by_cases hr : Y0 = rightW
      · have hxe : (⟨#[114, 105, 103, 104, 116]⟩ : ByteArray) = X0 := by rw [← HX0.out, hr]; rfl
        subst hxe
        rw [decide_eq_true hr, Bool.true_and] at hrl
        by_cases hn3 : n = 3
        · rw [decide_eq_true (by rw [HNL.out]; exact hn3), if_pos rfl] at hrl
          subst hn3
          obtain ⟨z0, Y1, Y2, e0⟩ : ∃ a b c, L = [a, b, c] := by
            have h := HNL.out
            match L, h with
            | [a, b, c], _ => exact ⟨a, b, c, rfl⟩
          subst e0
          have hv : rightV [z0, Y1, Y2] = (bs Y1, numR Y2) := rfl
          rw [hv] at hrl
          have hq : ∀ V, Below w1.heap.size w1 V → V.cell? ⟨g, k, none⟩ = some (.slice (some ⟨g', o', none⟩) 3 c') ∧ V.cell? ⟨g', o' + 1, none⟩ = some (.string (bs Y1)) ∧ V.cell? ⟨g', o' + 2, none⟩ = some (.string (bs Y2)) := fun V hV => ⟨(HQL.out V hV).1, (HQL.out V hV).2.1 1 _ rfl, (HQL.out V hV).2.1 2 _ rfl⟩
          have hnum := fun W => rnum31_any W Y2 (by have := HM.out Y2 (by simp); omega)
          have hy1 : (bs Y1).size ≤ 1000000 := by rw [bs_size]; exact HM.out Y1 (by simp)
          obtain ⟨XN, hXN⟩ : ∃ x, bs Y1 = x := ⟨_, rfl⟩
          obtain ⟨Z2, hZ2⟩ : ∃ x, bs Y2 = x := ⟨_, rfl⟩
          obtain ⟨d1, hd1⟩ : ∃ x, numR Y2 = x := ⟨_, rfl⟩
          rw [hXN, hZ2] at hq
          rw [hXN, hd1] at hrl
          rw [hXN] at hy1
          rw [hZ2, hd1] at hnum
          have HQ := Lib.hid hq
          have HNUM := Lib.hid hnum
          have HRLN := Lib.hid hrl
          clear hq hnum hrl hXN hZ2 hd1 HQL HM HNL HY0 hr hv
          go_upto_region 11 with fail
          clear x0 x1
          refine wp_region_hold (fun V => Blk V gm 27 #[.string X1, .int .i64 n1, .slice A8 nc c8, .string X2, .int .i64 n2, .slice A11 nm c11, .slice A6 rs.length c6, .slice A7 lv.length c7] ∧ Below w1.heap.size w1 V) [0, 1, 2, 3, 4, 5, 6, 7, 8, 9, 10, 11, 12, 13] [14, 15, 16, 17, 18] [19] (by kernel_rfl) (by kernel_rfl) (fun _ d _ _ _ h => by cases d <;> exact h) ⟨KM.out.drew, H1.out.drew⟩ ?_
          simp only [pick, List.drop_succ_cons, List.drop_zero, List.head?_cons, Option.toList_some, List.cons_append, List.nil_append, List.append_nil]
          repeat (refine wpHeld_step ?_ rfl ?_ ?_; rotate_left; · (intro V hV; obtain ⟨v0, v1, v2⟩ := hV.1.all; obtain ⟨z0, z1, z2⟩ := HQ.out V hV.2; go_simp; with_reducible rfl))
          refine wpHeld_nil ?_
          simp only [wpEarly]
          have H1x := Lib.hid (H1.out.trans ((below_drew0 wr).mono H1.out.size))
          have KMx := Lib.hid (KM.out.below (below_drew0 wr) KM.out.lt)
          have O8x := Lib.hid (own_self O8.out (below_drew0 wr))
          have O11x := Lib.hid (own_self O11.out (below_drew0 wr))
          have O6x := Lib.hid (own_self O6.out (below_drew0 wr))
          have O7x := Lib.hid (own_self O7.out (below_drew0 wr))
          have SOx := Lib.hid (SO.out.below (below_drew0 wr))
          clear H1 KM O8 O11 O6 O7 SO
          have H1 := H1x
          clear H1x
          have KM := KMx
          clear KMx
          have O8 := O8x
          clear O8x
          have O11 := O11x
          clear O11x
          have O6 := O6x
          clear O6x
          have O7 := O7x
          clear O7x
          have SO := SOx
          clear SOx
          generalize wr.drew = Wd at *
          go_wp2_with fail
          refine (HNUM.out Wd).mono ?_
          rintro e W2 ⟨rfl, rfl⟩
          go_wp2_with fail
          refine ⟨⟨KM.out, H1.out⟩, ?_⟩
          go_wp2_with fail
          refine ⟨⟨KM.out, H1.out⟩, ?_⟩
          have kn := Blk.new Wd 41 #[.string XN, .int .i64 d1]
          have q0 := below_self_alloc Wd (.cells #[.string XN, .int .i64 d1] 41)
          go_wp2_with fail
          have H1x := Lib.hid (H1.out.trans (q0.mono H1.out.size))
          have KMx := Lib.hid (KM.out.below q0 KM.out.lt)
          have O8x := Lib.hid (own_self O8.out q0)
          have O11x := Lib.hid (own_self O11.out q0)
          have O6x := Lib.hid (own_self O6.out q0)
          have O7x := Lib.hid (own_self O7.out q0)
          have SOx := Lib.hid (SO.out.below q0)
          clear H1 KM O8 O11 O6 O7 SO
          have H1 := H1x
          clear H1x
          have KM := KMx
          clear KMx
          have O8 := O8x
          clear O8x
          have O11 := O11x
          clear O11x
          have O6 := O6x
          clear O6x
          have O7 := O7x
          clear O7x
          have SO := SOx
          clear SOx
          have hsz := H1.out.size
          generalize Wd.heap.size = gw at *
          generalize Wd.alloc (.cells #[.string XN, .int .i64 d1] 41) = Wf at *
          refine ⟨⟨KM.out, H1.out⟩, ?_⟩
          go_wp2_with (at_builtin; refine wpList_append_lies _ rfl _ _ 24 rfl w1.heap.size 41 j0 _ 2 24 Tryz.underlying24 hj0 hy0 hy1' hy2 rfl (by omega) (.slice A6 rs.length c6) rs.length (rtCells rs) rfl O6.out ⟨gw, 0, none⟩ 1 1 [.string XN, .int .i64 d1] rfl rfl (World.news_of_block kn) (rtCells_one [(XN, d1)]) (by omega) (by unfold maxLen; omega) (by omega) (by omega) _ rfl ?_; intro gz cz Y own9 gr9 l9 z9)
          have O6n := Lib.hid own9
          have H1x := Lib.hid (H1.out.grown gr9 H1.out.size (fun k hk => Nat.le_trans (Nat.le_refl _) (World.ownsRow.lt O6.out k hk).1))
          have KMx := Lib.hid (KM.out.grown gr9 (fun e' => own_blk_ne O6.out KM.out (by decide) e'.symm))
          have O8x := Lib.hid (owns_grown O8.out O6.out (by decide) gr9)
          have O11x := Lib.hid (owns_grown O11.out O6.out (by decide) gr9)
          have O7x := Lib.hid (owns_grown O7.out O6.out (by decide) gr9)
          have SOx := Lib.hid (SO.out.grown O6.out (by decide) gr9)
          clear H1 KM O8 O11 O7 SO
          have H1 := H1x
          clear H1x
          have KM := KMx
          clear KMx
          have O8 := O8x
          clear O8x
          have O11 := O11x
          clear O11x
          have O7 := O7x
          clear O7x
          have SO := SOx
          clear SOx
          clear O6 own9 gr9 l9 z9 kn q0
          have O6 := O6n
          clear O6n
          obtain ⟨v0, v1, v2⟩ := KM.out.all
          refine ⟨⟨KM.out, H1.out⟩, ?_⟩
          go_wp2_with fail
          refine ⟨⟨KM.out, H1.out⟩, ?_⟩
          go_wp2_with fail
          clear v0 v1 v2
          have H1x := Lib.hid (H1.out.setCell (p := ⟨gm, 6, none⟩) (gbm) (.slice (some ⟨gz, 0, none⟩) (rs.length + 1) cz))
          have KMx := Lib.hid (KM.out.set_ 6 (.slice (some ⟨gz, 0, none⟩) (rs.length + 1) cz))
          have O8x := Lib.hid ((only_set2 (g := gm) (i := 6) (v := .slice (some ⟨gz, 0, none⟩) (rs.length + 1) cz)).owns O8.out (fun b hv e' => own_blk_ne O8.out KM.out (by decide) (by rw [hv, e'])))
          have O11x := Lib.hid ((only_set2 (g := gm) (i := 6) (v := .slice (some ⟨gz, 0, none⟩) (rs.length + 1) cz)).owns O11.out (fun b hv e' => own_blk_ne O11.out KM.out (by decide) (by rw [hv, e'])))
          have O6x := Lib.hid ((only_set2 (g := gm) (i := 6) (v := .slice (some ⟨gz, 0, none⟩) (rs.length + 1) cz)).owns O6.out (fun b hv e' => own_blk_ne O6.out KM.out (by decide) (by rw [hv, e'])))
          have O7x := Lib.hid ((only_set2 (g := gm) (i := 6) (v := .slice (some ⟨gz, 0, none⟩) (rs.length + 1) cz)).owns O7.out (fun b hv e' => own_blk_ne O7.out KM.out (by decide) (by rw [hv, e'])))
          have SOx := Lib.hid (SO.out.only KM.out (by decide) (only_set2 (g := gm) (i := 6) (v := .slice (some ⟨gz, 0, none⟩) (rs.length + 1) cz)))
          clear H1 KM O8 O11 O6 O7 SO
          have H1 := H1x
          clear H1x
          have KM := KMx
          clear KMx
          have O8 := O8x
          clear O8x
          have O11 := O11x
          clear O11x
          have O6 := O6x
          clear O6x
          have O7 := O7x
          clear O7x
          have SO := SOx
          clear SOx
          have KM2 : Hid (Blk _ gm 27 #[.string X1, .int .i64 n1, .slice A8 nc c8, .string X2, .int .i64 n2, .slice A11 nm c11, .slice (some ⟨gz, 0, none⟩) (rs.length + 1) cz, .slice A7 lv.length c7]) := Lib.hid (by simpa using KM.out)
          clear KM
          go_roundg nk
          case rel =>
            refine ⟨k + 1, rs ++ [(XN, d1)], lv, some ⟨gz, 0, none⟩, cz, A7, c7, by omega, by omega, by go_num, HRLN, H1, ?_, O8, O11, ?_, O7, SO, ?_, ?_⟩
            · rw [List.length_append]
              exact KM2
            · rw [List.length_append, rtCells_app]
              exact O6
            · rw [List.length_append]; simp only [List.length_cons, List.length_nil]; omega
            · exact Lib.hid fun r hr => by
                rcases List.mem_append.1 hr with h | h
                · exact RN.out r h
                · rw [List.mem_singleton] at h; subst h; exact hy1
          case measure => omega
        · rw [decide_eq_false (by rw [HNL.out]; exact hn3), if_neg (by simp), decide_eq_false (by rw [hr]; decide), Bool.false_and, if_neg (by simp)] at hrl
          have HRN := Lib.hid hrl.symm
          have dn : ((n : Int) == 3) = false := by simp; omega
          clear hrl hr
          obtain ⟨rfl, rfl⟩ : E = 5 ∧ Z = Mt.zero := HEZ.out.2 (rparse_none (by rw [HLO.out, HRN.out]; rfl))
          have kr := KR1.out.below H1.out KR1.out.lt
          have hlv := row_load kr #[.string ⟨#[]⟩, .int .i64 0, .slice none 0 0, .string ⟨#[]⟩, .int .i64 0, .slice none 0 0, .slice none 0 0, .slice none 0 0] rfl
          have HLV := Lib.hid hlv
          have HKR := Lib.hid kr
          have hfin := mt_err (w := w) (E := 5) (below_row (HB1.out.trans (H1.out.mono HB1.out.size)) (Nat.le_refl _) #[.string ⟨#[]⟩, .int .i64 0, .slice none 0 0, .string ⟨#[]⟩, .int .i64 0, .slice none 0 0, .slice none 0 0, .slice none 0 0])
          have HFIN := Lib.hid hfin
          clear hlv hfin kr
          go_wp2_with (refine wp_row rfl (.tmp 2) (.tmp 176) rfl w.heap.size #[.string ⟨#[]⟩, .int .i64 0, .slice none 0 0, .string ⟨#[]⟩, .int .i64 0, .slice none 0 0, .slice none 0 0, .slice none 0 0] rfl rfl rfl one8 rfl HKR.out ?_)
          exact bodyPost_ret (v := .tuple #[.agg #[.string ⟨#[]⟩, .int .i64 0, .slice none 0 0, .string ⟨#[]⟩, .int .i64 0, .slice none 0 0, .slice none 0 0, .slice none 0 0], .int .i64 5]) (by simp [results, Tryz.results14, asAddr, HLV.out]) rfl HFIN.out
      · rw [decide_eq_false hr, Bool.false_and, if_neg (by simp)] at hrl
        have hqrightW1 : (X0.toList == (⟨#[114, 105, 103, 104, 116]⟩ : ByteArray).toList) = false := by rw [← HX0.out]; exact beq_bs (b := rightW) hr
        have hqrightW2 : (X0.toList == [114, 105, 103, 104, 116]) = false := by have h := hqrightW1; rw [show (⟨#[114, 105, 103, 104, 116]⟩ : ByteArray).toList = [114, 105, 103, 104, 116] from Lib.toList_data _] at h; exact h
        by_cases hlm : Y0 = limitW
        case neg =>
          have hqlimitW1 : (X0.toList == (⟨#[108, 105, 109, 105, 116]⟩ : ByteArray).toList) = false := by rw [← HX0.out]; exact beq_bs (b := limitW) hlm
          have hqlimitW2 : (X0.toList == [108, 105, 109, 105, 116]) = false := by have h := hqlimitW1; rw [show (⟨#[108, 105, 109, 105, 116]⟩ : ByteArray).toList = [108, 105, 109, 105, 116] from Lib.toList_data _] at h; exact h
          rw [decide_eq_false hlm, Bool.false_and, if_neg (by simp)] at hrl
          have HRN := Lib.hid hrl.symm
          clear hrl hr hlm
          obtain ⟨rfl, rfl⟩ : E = 5 ∧ Z = Mt.zero := HEZ.out.2 (rparse_none (by rw [HLO.out, HRN.out]; rfl))
          have kr := KR1.out.below H1.out KR1.out.lt
          have hlv := row_load kr #[.string ⟨#[]⟩, .int .i64 0, .slice none 0 0, .string ⟨#[]⟩, .int .i64 0, .slice none 0 0, .slice none 0 0, .slice none 0 0] rfl
          have HLV := Lib.hid hlv
          have HKR := Lib.hid kr
          have hfin := mt_err (w := w) (E := 5) (below_row (HB1.out.trans (H1.out.mono HB1.out.size)) (Nat.le_refl _) #[.string ⟨#[]⟩, .int .i64 0, .slice none 0 0, .string ⟨#[]⟩, .int .i64 0, .slice none 0 0, .slice none 0 0, .slice none 0 0])
          have HFIN := Lib.hid hfin
          clear hlv hfin kr
          go_wp2_with (refine wp_row rfl (.tmp 2) (.tmp 176) rfl w.heap.size #[.string ⟨#[]⟩, .int .i64 0, .slice none 0 0, .string ⟨#[]⟩, .int .i64 0, .slice none 0 0, .slice none 0 0, .slice none 0 0] rfl rfl rfl one8 rfl HKR.out ?_)
          exact bodyPost_ret (v := .tuple #[.agg #[.string ⟨#[]⟩, .int .i64 0, .slice none 0 0, .string ⟨#[]⟩, .int .i64 0, .slice none 0 0, .slice none 0 0, .slice none 0 0], .int .i64 5]) (by simp [results, Tryz.results14, asAddr, HLV.out]) rfl HFIN.out
        have hxe : (⟨#[108, 105, 109, 105, 116]⟩ : ByteArray) = X0 := by rw [← HX0.out, hlm]; rfl
        subst hxe
        rw [decide_eq_true hlm, Bool.true_and] at hrl
        by_cases h5 : 5 ≤ n
        case neg =>
          rw [decide_eq_false (by rw [HNL.out]; exact h5), Bool.false_and, if_neg (by simp)] at hrl
          have HRN := Lib.hid hrl.symm
          have d5 : decide ((5 : Int) ≤ (n : Int)) = false := decide_eq_false (by omega)
          have d5' : ¬ (5 : Int) ≤ (n : Int) := by omega
          clear hrl hr hlm
          obtain ⟨rfl, rfl⟩ : E = 5 ∧ Z = Mt.zero := HEZ.out.2 (rparse_none (by rw [HLO.out, HRN.out]; rfl))
          have kr := KR1.out.below H1.out KR1.out.lt
          have hlv := row_load kr #[.string ⟨#[]⟩, .int .i64 0, .slice none 0 0, .string ⟨#[]⟩, .int .i64 0, .slice none 0 0, .slice none 0 0, .slice none 0 0] rfl
          have HLV := Lib.hid hlv
          have HKR := Lib.hid kr
          have hfin := mt_err (w := w) (E := 5) (below_row (HB1.out.trans (H1.out.mono HB1.out.size)) (Nat.le_refl _) #[.string ⟨#[]⟩, .int .i64 0, .slice none 0 0, .string ⟨#[]⟩, .int .i64 0, .slice none 0 0, .slice none 0 0, .slice none 0 0])
          have HFIN := Lib.hid hfin
          clear hlv hfin kr
          go_wp2_with (refine wp_row rfl (.tmp 2) (.tmp 176) rfl w.heap.size #[.string ⟨#[]⟩, .int .i64 0, .slice none 0 0, .string ⟨#[]⟩, .int .i64 0, .slice none 0 0, .slice none 0 0, .slice none 0 0] rfl rfl rfl one8 rfl HKR.out ?_)
          exact bodyPost_ret (v := .tuple #[.agg #[.string ⟨#[]⟩, .int .i64 0, .slice none 0 0, .string ⟨#[]⟩, .int .i64 0, .slice none 0 0, .slice none 0 0, .slice none 0 0], .int .i64 5]) (by simp [results, Tryz.results14, asAddr, HLV.out]) rfl HFIN.out
        rw [decide_eq_true (by rw [HNL.out]; exact h5), Bool.true_and] at hrl
        have d5 : decide ((5 : Int) ≤ (n : Int)) = true := decide_eq_true (by omega)
        have d5' : (5 : Int) ≤ (n : Int) := by omega
        obtain ⟨par, hpar⟩ : ∃ p, n % 2 = p := ⟨_, rfl⟩
        have hm1 : ((n : Nat) : Int).tmod 2 = (par : Int) := by rw [Int.tmod_eq_emod_of_nonneg (by omega)]; omega
        have hm2 : ((n : Nat) : Int) % 2 = (par : Int) := by omega
        have hw2 : IntKind.i64.wrap (par : Int) = (par : Int) := IntWalk.i64_in _ (by omega)
        by_cases hod : par = 1
        case neg =>
          rw [decide_eq_false (by rw [HNL.out, hpar]; exact hod), if_neg (by simp)] at hrl
          have HRN := Lib.hid hrl.symm
          have dp : ((par : Int) == 1) = false := by simp; omega
          clear hrl hr hlm
          obtain ⟨rfl, rfl⟩ : E = 5 ∧ Z = Mt.zero := HEZ.out.2 (rparse_none (by rw [HLO.out, HRN.out]; rfl))
          have kr := KR1.out.below H1.out KR1.out.lt
          have hlv := row_load kr #[.string ⟨#[]⟩, .int .i64 0, .slice none 0 0, .string ⟨#[]⟩, .int .i64 0, .slice none 0 0, .slice none 0 0, .slice none 0 0] rfl
          have HLV := Lib.hid hlv
          have HKR := Lib.hid kr
          have hfin := mt_err (w := w) (E := 5) (below_row (HB1.out.trans (H1.out.mono HB1.out.size)) (Nat.le_refl _) #[.string ⟨#[]⟩, .int .i64 0, .slice none 0 0, .string ⟨#[]⟩, .int .i64 0, .slice none 0 0, .slice none 0 0, .slice none 0 0])
          have HFIN := Lib.hid hfin
          clear hlv hfin kr
          go_wp2_with (refine wp_row rfl (.tmp 2) (.tmp 176) rfl w.heap.size #[.string ⟨#[]⟩, .int .i64 0, .slice none 0 0, .string ⟨#[]⟩, .int .i64 0, .slice none 0 0, .slice none 0 0, .slice none 0 0] rfl rfl rfl one8 rfl HKR.out ?_)
          exact bodyPost_ret (v := .tuple #[.agg #[.string ⟨#[]⟩, .int .i64 0, .slice none 0 0, .string ⟨#[]⟩, .int .i64 0, .slice none 0 0, .slice none 0 0, .slice none 0 0], .int .i64 5]) (by simp [results, Tryz.results14, asAddr, HLV.out]) rfl HFIN.out
        rw [decide_eq_true (by rw [HNL.out, hpar]; exact hod), if_pos rfl] at hrl
        subst hod
        have dp : (((1 : Nat) : Int) == 1) = true := rfl
        obtain ⟨Y1, hY1⟩ : ∃ y, L[1]? = some y := ⟨_, List.getElem?_eq_getElem (by rw [HNL.out]; omega)⟩
        have hnl : L.length = n := HNL.out
        have hg1 : L.getD 1 [] = Y1 := getD_at hY1
        have hlv : limitV L = ⟨bs Y1, numR (L.getD 2 []), numR (L.getD 3 []), numR (L.getD 4 []), prsR ((L.drop 5).map numR)⟩ := by unfold limitV; rw [hg1]
        obtain ⟨A3, hs3, hs3'⟩ := slice_from (P := Tryz.prog) 43 9 Tryz.underlying43 (by kernel_rfl) g' o' n c' 2 2 rfl (by omega) pL
        have hns : Calls Tryz.prog 47 #[.slice A3 (n - 2) (c' - 2)] wr _ := rnums2_any wr w1.heap.size A3 (L.drop 2) (c' - 2) (n - 2) (by simp [hnl]) (hs3' wr _ L hnl (HQL.out wr H1.out).2.2) H1.out.size (fun s hs => by have := HM.out s (List.mem_of_mem_drop hs); omega) (by omega)
        obtain ⟨li, hli⟩ : ∃ l, (L.drop 2).map numR = l := ⟨_, rfl⟩
        obtain ⟨ln, hln⟩ : ∃ l, n - 2 = l := ⟨_, rfl⟩
        have hlil : li.length = ln := by rw [← hli, ← hln]; simp [hnl]
        rw [hli, hln] at hns
        rw [hln] at hs3
        obtain ⟨a0, a1, a2, lt, e3⟩ : ∃ a b c r, li = a :: b :: c :: r := by
          match li, hlil with
          | a :: b :: c :: r, _ => exact ⟨a, b, c, r, rfl⟩
          | [a, b], h => simp at h; omega
          | [a], h => simp at h; omega
          | [], h => simp at h; omega
        obtain ⟨full, hfull⟩ : ∃ f, prsR lt = f := ⟨_, rfl⟩
        have hlc : limitV L = ⟨bs Y1, a0, a1, a2, full⟩ := by
          have h2 : (L.drop 2).map numR = a0 :: a1 :: a2 :: lt := by rw [hli, e3]
          match L, hnl with
          | z0 :: z1 :: z2 :: z3 :: z4 :: r, _ =>
            have h3 : numR z2 :: numR z3 :: numR z4 :: r.map numR = a0 :: a1 :: a2 :: lt := h2
            simp only [List.cons.injEq] at h3
            obtain ⟨i1, i2, i3, i4⟩ := h3
            rw [hlv]
            show (⟨bs Y1, numR z2, numR z3, numR z4, prsR (r.map numR)⟩ : Lm) = _
            rw [i1, i2, i3, i4, hfull]
        have hfl : 3 + 2 * full.length = ln := by
          rw [← hfull, prsR_len]
          rw [e3] at hlil
          simp only [List.length_cons] at hlil
          omega
        have hfa : ∀ (j : Nat) (s : Stp2), full[j]? = some s → li[3 + 2 * j]? = some s.1 ∧ li[3 + 2 * j + 1]? = some s.2 := fun j s hj => by
          rw [← hfull] at hj
          have h := prsR_at lt j s hj
          rw [e3, show 3 + 2 * j = 2 * j + 1 + 1 + 1 by omega]
          exact h
        rw [hlc] at hrl
        have hq : ∀ V, Below w1.heap.size w1 V → V.cell? ⟨g, k, none⟩ = some (.slice (some ⟨g', o', none⟩) n c') ∧ V.cell? ⟨g', o' + 1, none⟩ = some (.string (bs Y1)) := fun V hV => ⟨(HQL.out V hV).1, (HQL.out V hV).2.1 1 _ hY1⟩
        have hy1 : (bs Y1).size ≤ 1000000 := by rw [bs_size]; exact HM.out Y1 (List.mem_of_getElem? hY1)
        obtain ⟨XN, hXN⟩ : ∃ x, bs Y1 = x := ⟨_, rfl⟩
        rw [hXN] at hrl hq hy1
        have HQ := Lib.hid hq
        have HNS := Lib.hid hns
        have HRLN := Lib.hid hrl
        have HLI := Lib.hid hlil
        have HFL := Lib.hid hfl
        have HFA := Lib.hid hfa
        have HE3 := Lib.hid e3
        have kb0 : (0 : Int) < (ln : Int) := by omega
        have kn0 : 0 < ln := by omega
        have kn1 : 1 < ln := by omega
        have kn2 : 2 < ln := by omega
        have kb1 : (1 : Int) < (ln : Int) := by omega
        have kb2 : (2 : Int) < (ln : Int) := by omega
        have jb1 : (1 : Int) < (n : Int) := by omega
        have jb2 : (2 : Int) ≤ (n : Int) := by omega
        have hlnb : ln ≤ 1000000 := by omega
        clear hnl hg1 hlv hs3' hns hli hln hlil e3 hfull hlc hfl hfa hrl hq hXN hY1 HQL HM HNL HY0 hr hlm hpar
        go_upto_region 13 with fail
        go_wp2_with fail
        refine HNS.out.mono ?_
        rintro e W5 ⟨An, cn, rfl, own, b5⟩
        obtain ⟨gn, cap', hv, -, hgn⟩ := own.form (by omega)
        injection hv with hA _ hcap
        subst hA
        clear hcap
        have ON := Lib.hid (owns_low own H1.out.size)
        clear own
        have H1x := Lib.hid (H1.out.trans (b5.mono H1.out.size))
        have KMx := Lib.hid (KM.out.below b5 KM.out.lt)
        have O8x := Lib.hid (own_self O8.out b5)
        have O11x := Lib.hid (own_self O11.out b5)
        have O6x := Lib.hid (own_self O6.out b5)
        have O7x := Lib.hid (own_self O7.out b5)
        have SOx := Lib.hid (SO.out.below b5)
        clear H1 KM O8 O11 O6 O7 SO
        have H1 := H1x
        clear H1x
        have KM := KMx
        clear KMx
        have O8 := O8x
        clear O8x
        have O11 := O11x
        clear O11x
        have O6 := O6x
        clear O6x
        have O7 := O7x
        clear O7x
        have SO := SOx
        clear SOx
        have hq2 : ∀ V, Below W5.heap.size W5 V → V.cell? ⟨g, k, none⟩ = some (.slice (some ⟨g', o', none⟩) n c') ∧ V.cell? ⟨g', o' + 1, none⟩ = some (.string XN) ∧ V.cell? ⟨gn, 0, none⟩ = some (.int .i64 a0) ∧ V.cell? ⟨gn, 1, none⟩ = some (.int .i64 a1) ∧ V.cell? ⟨gn, 2, none⟩ = some (.int .i64 a2) := fun V hV =>
          ⟨(HQ.out V (H1.out.trans (hV.mono H1.out.size))).1, (HQ.out V (H1.out.trans (hV.mono H1.out.size))).2, own_cells (own_self ON.out hV) (i := 0) (by rw [HE3.out]; rfl) HLI.out, own_cells (own_self ON.out hV) (i := 1) (by rw [HE3.out]; rfl) HLI.out, own_cells (own_self ON.out hV) (i := 2) (by rw [HE3.out]; rfl) HLI.out⟩
        have HQ2 := Lib.hid hq2
        clear hq2 b5 x0 x1
        go_upto_region 14 with fail
        refine wp_region_hold (fun V => Below W5.heap.size W5 V) [0, 1, 2, 3, 4, 5, 6, 7, 8, 9, 10, 11, 12, 13, 14, 15, 16] [17] [18] (by kernel_rfl) (by kernel_rfl) (fun _ d _ _ _ h => by cases d <;> exact h) (below_drew0 W5) ?_
        simp only [pick, List.drop_succ_cons, List.drop_zero, List.head?_cons, Option.toList_some, List.cons_append, List.nil_append, List.append_nil]
        repeat (refine wpHeld_step ?_ rfl ?_ ?_; rotate_left; · (intro V hV; obtain ⟨z0, z1, z2, z3, z4⟩ := HQ2.out V hV; go_simp; with_reducible rfl))
        refine wpHeld_nil ?_
        simp only [wpEarly]
        have qd := below_drew0 W5
        have hsd : W5.heap.size ≤ W5.drew.heap.size := Nat.le_refl _
        generalize W5.drew = Wd at *
        go_wp2_with fail
        refine ⟨qd.alloc (by omega) _, ?_⟩
        have kb := Blk.new Wd 65 #[.string ⟨#[]⟩, .int .i64 0, .int .i64 0, .int .i64 0, .slice none 0 0]
        have q6 := below_row (qd.alloc (by omega) (.cells #[.string ⟨#[]⟩, .int .i64 0, .int .i64 0, .int .i64 0, .slice none 0 0] 65)) (show W5.heap.size ≤ Wd.heap.size by omega) #[.string XN, .int .i64 a0, .int .i64 a1, .int .i64 a2, .slice none 0 0]
        have kx := setRow_heap (Wd.alloc (.cells #[.string ⟨#[]⟩, .int .i64 0, .int .i64 0, .int .i64 0, .slice none 0 0] 65)) Wd.heap.size #[.string ⟨#[]⟩, .int .i64 0, .int .i64 0, .int .i64 0, .slice none 0 0] #[.string XN, .int .i64 a0, .int .i64 a1, .int .i64 a2, .slice none 0 0] _ _ kb
        have h7 : ∀ b, (Value.slice A7 lv.length c7).ownBlock = some b → b ≠ Wd.heap.size := fun b hb => by have := (World.ownsRow.lt O7.out b hb).2; omega
        have hgx : w1.heap.size ≤ Wd.heap.size := by have := H1.out.size; omega
        have H7 := Lib.hid h7
        clear h7
        go_upto_region 15 with (refine wp_rowL rfl (.tmp 8) (.tmp 148) rfl Wd.heap.size #[.string XN, .int .i64 a0, .int .i64 a1, .int .i64 a2, .slice none 0 0] rfl rfl rfl one5 rfl kb ?_)
        have H1x := Lib.hid (H1.out.trans (q6.mono H1.out.size))
        have KMx := Lib.hid (KM.out.below q6 KM.out.lt)
        have O8x := Lib.hid (own_self O8.out q6)
        have O11x := Lib.hid (own_self O11.out q6)
        have O6x := Lib.hid (own_self O6.out q6)
        have O7x := Lib.hid (own_self O7.out q6)
        have SOx := Lib.hid (SO.out.below q6)
        have ONx := Lib.hid (own_self ON.out q6)
        clear H1 KM O8 O11 O6 O7 SO ON
        have H1 := H1x
        clear H1x
        have KM := KMx
        clear KMx
        have O8 := O8x
        clear O8x
        have O11 := O11x
        clear O11x
        have O6 := O6x
        clear O6x
        have O7 := O7x
        clear O7x
        have SO := SOx
        clear SOx
        have ON := ONx
        clear ONx
        have KX : Hid (Blk ((Wd.alloc (.cells #[.string ⟨#[]⟩, .int .i64 0, .int .i64 0, .int .i64 0, .slice none 0 0] 65)).setRow Wd.heap.size #[.string XN, .int .i64 a0, .int .i64 a1, .int .i64 a2, .slice none 0 0]) Wd.heap.size 65 #[.string XN, .int .i64 a0, .int .i64 a1, .int .i64 a2, .slice none 0 0]) := Lib.hid kx
        clear q6 kx kb HQ2 qd hsd
        generalize (Wd.alloc (.cells #[.string ⟨#[]⟩, .int .i64 0, .int .i64 0, .int .i64 0, .slice none 0 0] 65)).setRow Wd.heap.size #[.string XN, .int .i64 a0, .int .i64 a1, .int .i64 a2, .slice none 0 0] = W6 at *
        generalize Wd.heap.size = gx at *
        obtain ⟨zb, hzb⟩ : ∃ z, W6.heap.size = z := ⟨_, rfl⟩
        have hzw := H1.out.size
        have hltz := SO.out.lt
        rw [hzb] at hzw hltz
        have HZB := Lib.hid hzb
        have LTZ := Lib.hid hltz
        clear hzb hltz
        go_wp2_with fail
        go_loopg [9] (full.length) (fun nn v wr => ∃ (j y : Nat) (S : List Stp2) (Aj : Option Addr) (cj : Nat), j + nn = full.length ∧ Hid (y = 3 + 2 * j) ∧ v = .int .i64 (y : Int) ∧ Hid (S.length = j) ∧ Hid (S = full.take j) ∧ Hid (Below w1.heap.size w1 wr) ∧ Hid (Blk wr gm 27 #[.string X1, .int .i64 n1, .slice A8 nc c8, .string X2, .int .i64 n2, .slice A11 nm c11, .slice A6 rs.length c6, .slice A7 lv.length c7]) ∧ Hid (wr.ownsRow w1.heap.size 3 1 (.slice A8 nc c8) nc (intCells cs)) ∧ Hid (wr.ownsRow w1.heap.size 3 1 (.slice A11 nm c11) nm (intCells mv)) ∧ Hid (wr.ownsRow w1.heap.size 41 2 (.slice A6 rs.length c6) rs.length (rtCells rs)) ∧ Hid (wr.ownsRow w1.heap.size 65 5 (.slice A7 lv.length c7) lv.length (lmCells lv)) ∧ Hid (StpOK w1 wr lv) ∧ Hid (wr.ownsRow w1.heap.size 3 1 (.slice (some ⟨gn, 0, none⟩) ln cn) ln (intCells li)) ∧ Hid (Blk wr gx 65 #[.string XN, .int .i64 a0, .int .i64 a1, .int .i64 a2, .slice Aj S.length cj]) ∧ Hid (wr.ownsRow zb 77 2 (.slice Aj S.length cj) S.length (stopCells S)) ∧ zb ≤ wr.heap.size)
        case atStart => exact ⟨0, 3, [], none, 0, Nat.zero_add _, Lib.hid rfl, rfl, Lib.hid rfl, Lib.hid rfl, H1, KM, O8, O11, O6, O7, SO, ON, KX, Lib.hid (World.ownsRow_nil _ _ _ _), Nat.le_of_eq HZB.out.symm⟩
        case round =>
          clear H1 KM O8 O11 O6 O7 SO ON KX HZB
          obtain ⟨j, y, S, Aj, cj, hj, HY, rfl, HSL, HSF, H1, KM, O8, O11, O6, O7, SO, ON, KX, OS, hzr⟩ := hrel
          have hln2 := HFL.out
          by_cases hlt2 : j < full.length
          · obtain ⟨⟨pp, qq⟩, hfj⟩ : ∃ s, full[j]? = some s := ⟨_, List.getElem?_eq_getElem hlt2⟩
            obtain ⟨f1, f2⟩ := HFA.out j _ hfj
            rw [← HY.out] at f1 f2
            have F1 := Lib.hid f1
            have F2 := Lib.hid f2
            have TK2 := Lib.hid (take_snoc' hfj)
            have yb0 : (0 : Int) ≤ (y : Int) := by omega
            have yb1 : (y : Int) < (ln : Int) := by have := HY.out; omega
            have yb2 : (y : Int) + 1 < (ln : Int) := by have := HY.out; omega
            have yb3 : (0 : Int) ≤ (y : Int) + 1 := by omega
            have yw : IntKind.i64.wrap ((y : Int) + 1) = (y : Int) + 1 := IntWalk.i64_in _ (by omega)
            have yt : ((y : Int) + 1).toNat = y + 1 := by omega
            have hSb : S.length ≤ 1000000 := by have := HSL.out; omega
            clear f1 f2 hfj
            go_upto_region 18 with fail
            refine wp_region_hold (fun V => Blk V gx 65 #[.string XN, .int .i64 a0, .int .i64 a1, .int .i64 a2, .slice Aj S.length cj] ∧ V.cell? ⟨gn, y, none⟩ = some (.int .i64 pp) ∧ V.cell? ⟨gn, y + 1, none⟩ = some (.int .i64 qq)) [0, 1, 2, 3, 4, 5, 6, 7, 8, 9, 10, 11] [12, 13, 14] [15] (by kernel_rfl) (by kernel_rfl) (fun _ d _ _ _ h => by cases d <;> exact h) ⟨KX.out.drew, own_cells ON.out F1.out HLI.out, own_cells ON.out F2.out HLI.out⟩ ?_
            simp only [pick, List.drop_succ_cons, List.drop_zero, List.head?_cons, Option.toList_some, List.cons_append, List.nil_append, List.append_nil]
            repeat (refine wpHeld_step ?_ rfl ?_ ?_; rotate_left; · (intro V hV; obtain ⟨v0, v1, v2⟩ := hV.1.all; obtain ⟨-, c0, c1⟩ := hV; go_simp; with_reducible rfl))
            refine wpHeld_nil ?_
            simp only [wpEarly]
            have H1x := Lib.hid (H1.out.trans ((below_drew0 wr).mono H1.out.size))
            have KMx := Lib.hid (KM.out.below (below_drew0 wr) KM.out.lt)
            have O8x := Lib.hid (own_self O8.out (below_drew0 wr))
            have O11x := Lib.hid (own_self O11.out (below_drew0 wr))
            have O6x := Lib.hid (own_self O6.out (below_drew0 wr))
            have O7x := Lib.hid (own_self O7.out (below_drew0 wr))
            have SOx := Lib.hid (SO.out.below (below_drew0 wr))
            have ONx := Lib.hid (own_self ON.out (below_drew0 wr))
            have KXx := Lib.hid (KX.out.below (below_drew0 wr) KX.out.lt)
            have OSx := Lib.hid (own_self OS.out (below_drew0 wr))
            clear H1 KM O8 O11 O6 O7 SO ON KX OS
            have H1 := H1x
            clear H1x
            have KM := KMx
            clear KMx
            have O8 := O8x
            clear O8x
            have O11 := O11x
            clear O11x
            have O6 := O6x
            clear O6x
            have O7 := O7x
            clear O7x
            have SO := SOx
            clear SOx
            have ON := ONx
            clear ONx
            have KX := KXx
            clear KXx
            have OS := OSx
            clear OSx
            have hzr2 : zb ≤ wr.drew.heap.size := hzr
            generalize wr.drew = Wd at *
            have kn := Blk.new Wd 77 #[.int .i64 pp, .int .i64 qq]
            have q0 := below_self_alloc Wd (.cells #[.int .i64 pp, .int .i64 qq] 77)
            have hzr3 := Nat.le_trans hzr2 q0.size
            go_wp2_with fail
            have H1x := Lib.hid (H1.out.trans (q0.mono H1.out.size))
            have KMx := Lib.hid (KM.out.below q0 KM.out.lt)
            have O8x := Lib.hid (own_self O8.out q0)
            have O11x := Lib.hid (own_self O11.out q0)
            have O6x := Lib.hid (own_self O6.out q0)
            have O7x := Lib.hid (own_self O7.out q0)
            have SOx := Lib.hid (SO.out.below q0)
            have ONx := Lib.hid (own_self ON.out q0)
            have KXx := Lib.hid (KX.out.below q0 KX.out.lt)
            have OSx := Lib.hid (own_self OS.out q0)
            clear H1 KM O8 O11 O6 O7 SO ON KX OS
            have H1 := H1x
            clear H1x
            have KM := KMx
            clear KMx
            have O8 := O8x
            clear O8x
            have O11 := O11x
            clear O11x
            have O6 := O6x
            clear O6x
            have O7 := O7x
            clear O7x
            have SO := SOx
            clear SOx
            have ON := ONx
            clear ONx
            have KX := KXx
            clear KXx
            have OS := OSx
            clear OSx
            generalize Wd.heap.size = gw at *
            generalize Wd.alloc (.cells #[.int .i64 pp, .int .i64 qq] 77) = Wf at *
            refine ⟨⟨KX.out, own_cells ON.out F1.out HLI.out, own_cells ON.out F2.out HLI.out⟩, ?_⟩
            go_wp2_with (at_builtin; refine wpList_append_lies _ rfl _ _ 63 rfl zb 77 i0 _ 2 16 Tryz.underlying63 hi0 hz0 hz1 hz2 rfl (by omega) (.slice Aj S.length cj) S.length (stopCells S) rfl OS.out ⟨gw, 0, none⟩ 1 1 [.int .i64 pp, .int .i64 qq] rfl rfl (World.news_of_block kn) (stopCells_one [(pp, qq)]) (by omega) (by unfold maxLen; omega) (by omega) (by omega) _ rfl ?_; intro gz cz Y own9 gr9 l9 z9)
            have OSn := Lib.hid own9
            have H1x := Lib.hid (H1.out.grown gr9 H1.out.size (fun k hk => Nat.le_trans (hzw) (World.ownsRow.lt OS.out k hk).1))
            have KMx := Lib.hid (KM.out.grown gr9 (fun e' => own_blk_ne OS.out KM.out (by decide) e'.symm))
            have O8x := Lib.hid (owns_grown O8.out OS.out (by decide) gr9)
            have O11x := Lib.hid (owns_grown O11.out OS.out (by decide) gr9)
            have O6x := Lib.hid (owns_grown O6.out OS.out (by decide) gr9)
            have O7x := Lib.hid (owns_grown O7.out OS.out (by decide) gr9)
            have SOx := Lib.hid (SO.out.apart LTZ.out OS.out (Nat.le_refl _) gr9)
            have ONx := Lib.hid (owns_grown ON.out OS.out (by decide) gr9)
            have KXx := Lib.hid (KX.out.grown gr9 (fun e' => own_blk_ne OS.out KX.out (by decide) e'.symm))
            clear H1 KM O8 O11 O6 O7 SO ON KX
            have H1 := H1x
            clear H1x
            have KM := KMx
            clear KMx
            have O8 := O8x
            clear O8x
            have O11 := O11x
            clear O11x
            have O6 := O6x
            clear O6x
            have O7 := O7x
            clear O7x
            have SO := SOx
            clear SOx
            have ON := ONx
            clear ONx
            have KX := KXx
            clear KXx
            have hzy := Nat.le_trans hzr3 gr9.size
            clear OS own9 gr9 l9 z9 kn q0
            have OS := OSn
            clear OSn
            obtain ⟨v0, v1, v2⟩ := KX.out.all
            refine ⟨⟨KX.out, own_cells ON.out F1.out HLI.out, own_cells ON.out F2.out HLI.out⟩, ?_⟩
            go_wp2_with fail
            refine ⟨⟨KX.out, own_cells ON.out F1.out HLI.out, own_cells ON.out F2.out HLI.out⟩, ?_⟩
            go_wp2_with fail
            clear v0 v1 v2
            have O7n := Lib.hid ((only_set2 (g := gx) (i := 4) (v := .slice (some ⟨gz, 0, none⟩) (S.length + 1) cz)).owns O7.out H7.out)
            have H1x := Lib.hid (H1.out.setCell (p := ⟨gx, 4, none⟩) (hgx) (.slice (some ⟨gz, 0, none⟩) (S.length + 1) cz))
            have KMx := Lib.hid (KM.out.far (p := ⟨gx, 4, none⟩) (Blk.ne_ KM.out KX.out (by decide)) (.slice (some ⟨gz, 0, none⟩) (S.length + 1) cz))
            have O8x := Lib.hid ((only_set2 (g := gx) (i := 4) (v := .slice (some ⟨gz, 0, none⟩) (S.length + 1) cz)).owns O8.out (fun b hv e' => own_blk_ne O8.out KX.out (by decide) (by rw [hv, e'])))
            have O11x := Lib.hid ((only_set2 (g := gx) (i := 4) (v := .slice (some ⟨gz, 0, none⟩) (S.length + 1) cz)).owns O11.out (fun b hv e' => own_blk_ne O11.out KX.out (by decide) (by rw [hv, e'])))
            have O6x := Lib.hid ((only_set2 (g := gx) (i := 4) (v := .slice (some ⟨gz, 0, none⟩) (S.length + 1) cz)).owns O6.out (fun b hv e' => own_blk_ne O6.out KX.out (by decide) (by rw [hv, e'])))
            have SOx := Lib.hid (SO.out.only KX.out (by decide) (only_set2 (g := gx) (i := 4) (v := .slice (some ⟨gz, 0, none⟩) (S.length + 1) cz)))
            have ONx := Lib.hid ((only_set2 (g := gx) (i := 4) (v := .slice (some ⟨gz, 0, none⟩) (S.length + 1) cz)).owns ON.out (fun b hv e' => own_blk_ne ON.out KX.out (by decide) (by rw [hv, e'])))
            have KXx := Lib.hid (KX.out.set_ 4 (.slice (some ⟨gz, 0, none⟩) (S.length + 1) cz))
            have OSx := Lib.hid ((only_set2 (g := gx) (i := 4) (v := .slice (some ⟨gz, 0, none⟩) (S.length + 1) cz)).owns OS.out (fun b hv e' => own_blk_ne OS.out KX.out (by decide) (by rw [hv, e'])))
            clear H1 KM O8 O11 O6 SO ON KX OS
            have H1 := H1x
            clear H1x
            have KM := KMx
            clear KMx
            have O8 := O8x
            clear O8x
            have O11 := O11x
            clear O11x
            have O6 := O6x
            clear O6x
            have SO := SOx
            clear SOx
            have ON := ONx
            clear ONx
            have KX := KXx
            clear KXx
            have OS := OSx
            clear OSx
            clear O7
            have O7 := O7n
            clear O7n
            have KX2 : Hid (Blk _ gx 65 #[.string XN, .int .i64 a0, .int .i64 a1, .int .i64 a2, .slice (some ⟨gz, 0, none⟩) (S.length + 1) cz]) := Lib.hid (by simpa using KX.out)
            clear KX
            go_roundg (gk - 1)
            case rel =>
              refine ⟨j + 1, y + 2, S ++ [(pp, qq)], some ⟨gz, 0, none⟩, cz, by omega, Lib.hid (by have := HY.out; omega), by go_num, Lib.hid (by simp [HSL.out]), ?_, H1, KM, O8, O11, O6, O7, SO, ON, ?_, ?_, ?_⟩
              · exact Lib.hid (by rw [TK2.out, ← HSF.out])
              · rw [List.length_append]
                exact KX2
              · rw [List.length_append, stopCells_app]
                exact OS
              · simpa [World.setCell] using hzy
            case measure => omega
          · obtain rfl : j = full.length := by omega
            have hSf : S = full := by rw [HSF.out, List.take_length]
            have HSE := Lib.hid hSf
            have yb1 : ¬ (y : Int) < (ln : Int) := by have := HY.out; omega
            have hSb : S.length ≤ 1000000 := by have := HSL.out; omega
            clear hSf HSF
            obtain ⟨k0, k1, k2⟩ := KM.out.all
            obtain ⟨x0, x1, x2⟩ := KX.out.all
            have kn := Blk.new wr 65 #[.string XN, .int .i64 a0, .int .i64 a1, .int .i64 a2, .slice Aj S.length cj]
            have q0 := below_self_alloc wr (.cells #[.string XN, .int .i64 a0, .int .i64 a1, .int .i64 a2, .slice Aj S.length cj] 65)
            have hsz := H1.out.size
            have hs1 : (wr.alloc (.cells #[.string XN, .int .i64 a0, .int .i64 a1, .int .i64 a2, .slice Aj S.length cj] 65)).heap.size = wr.heap.size + 1 := by simp
            have H1x := Lib.hid (H1.out.trans (q0.mono H1.out.size))
            have KMx := Lib.hid (KM.out.below q0 KM.out.lt)
            have O8x := Lib.hid (own_self O8.out q0)
            have O11x := Lib.hid (own_self O11.out q0)
            have O6x := Lib.hid (own_self O6.out q0)
            have O7x := Lib.hid (own_self O7.out q0)
            have SOx := Lib.hid (SO.out.below q0)
            have ONx := Lib.hid (own_self ON.out q0)
            have OSx := Lib.hid (own_self OS.out q0)
            clear H1 KM O8 O11 O6 O7 SO ON OS
            have H1 := H1x
            clear H1x
            have KM := KMx
            clear KMx
            have O8 := O8x
            clear O8x
            have O11 := O11x
            clear O11x
            have O6 := O6x
            clear O6x
            have O7 := O7x
            clear O7x
            have SO := SOx
            clear SOx
            have ON := ONx
            clear ONx
            have OS := OSx
            clear OSx
            go_wp2_with (at_builtin; refine wpList_append_lies _ rfl _ _ 25 rfl w1.heap.size 65 l0 _ 5 64 Tryz.underlying25 hl0' hx0' hx1' hx2' rfl (by omega) (.slice A7 lv.length c7) lv.length (lmCells lv) rfl O7.out ⟨wr.heap.size, 0, none⟩ 1 1 (encL (⟨XN, a0, a1, a2, S⟩, Aj, cj)) rfl rfl (World.news_of_block kn) (encL_one _) (by omega) (by unfold maxLen; omega) (by omega) (by omega) _ rfl ?_; intro gz cz Y own9 gr9 l9 z9; have KMg := Lib.hid (KM.out.grown gr9 (fun e' => own_blk_ne O7.out KM.out (by decide) e'.symm)); obtain ⟨v0, v1, v2⟩ := KMg.out.all)
            have O7n := Lib.hid own9
            have H1x := Lib.hid (H1.out.grown gr9 H1.out.size (fun k hk => Nat.le_trans (Nat.le_refl _) (World.ownsRow.lt O7.out k hk).1))
            have KMx := Lib.hid (KM.out.grown gr9 (fun e' => own_blk_ne O7.out KM.out (by decide) e'.symm))
            have O8x := Lib.hid (owns_grown O8.out O7.out (by decide) gr9)
            have O11x := Lib.hid (owns_grown O11.out O7.out (by decide) gr9)
            have O6x := Lib.hid (owns_grown O6.out O7.out (by decide) gr9)
            have SOx := Lib.hid (SO.out.grown O7.out (by decide) gr9)
            have ONx := Lib.hid (owns_grown ON.out O7.out (by decide) gr9)
            have OSx := Lib.hid (owns_grown OS.out O7.out (by decide) gr9)
            clear H1 KM O8 O11 O6 SO ON OS
            have H1 := H1x
            clear H1x
            have KM := KMx
            clear KMx
            have O8 := O8x
            clear O8x
            have O11 := O11x
            clear O11x
            have O6 := O6x
            clear O6x
            have SO := SOx
            clear SOx
            have ON := ONx
            clear ONx
            have OS := OSx
            clear OSx
            clear O7 own9 gr9 l9 z9 kn q0 KMg k0 k1 k2 x0 x1 x2
            have O7 := O7n
            clear O7n
            have H1x := Lib.hid (H1.out.setCell (p := ⟨gm, 7, none⟩) (gbm) (.slice (some ⟨gz, 0, none⟩) (lv.length + 1) cz))
            have KMx := Lib.hid (KM.out.set_ 7 (.slice (some ⟨gz, 0, none⟩) (lv.length + 1) cz))
            have O8x := Lib.hid ((only_set2 (g := gm) (i := 7) (v := .slice (some ⟨gz, 0, none⟩) (lv.length + 1) cz)).owns O8.out (fun b hv e' => own_blk_ne O8.out KM.out (by decide) (by rw [hv, e'])))
            have O11x := Lib.hid ((only_set2 (g := gm) (i := 7) (v := .slice (some ⟨gz, 0, none⟩) (lv.length + 1) cz)).owns O11.out (fun b hv e' => own_blk_ne O11.out KM.out (by decide) (by rw [hv, e'])))
            have O6x := Lib.hid ((only_set2 (g := gm) (i := 7) (v := .slice (some ⟨gz, 0, none⟩) (lv.length + 1) cz)).owns O6.out (fun b hv e' => own_blk_ne O6.out KM.out (by decide) (by rw [hv, e'])))
            have O7x := Lib.hid ((only_set2 (g := gm) (i := 7) (v := .slice (some ⟨gz, 0, none⟩) (lv.length + 1) cz)).owns O7.out (fun b hv e' => own_blk_ne O7.out KM.out (by decide) (by rw [hv, e'])))
            have SOx := Lib.hid (SO.out.only KM.out (by decide) (only_set2 (g := gm) (i := 7) (v := .slice (some ⟨gz, 0, none⟩) (lv.length + 1) cz)))
            have ONx := Lib.hid ((only_set2 (g := gm) (i := 7) (v := .slice (some ⟨gz, 0, none⟩) (lv.length + 1) cz)).owns ON.out (fun b hv e' => own_blk_ne ON.out KM.out (by decide) (by rw [hv, e'])))
            have OSx := Lib.hid ((only_set2 (g := gm) (i := 7) (v := .slice (some ⟨gz, 0, none⟩) (lv.length + 1) cz)).owns OS.out (fun b hv e' => own_blk_ne OS.out KM.out (by decide) (by rw [hv, e'])))
            clear H1 KM O8 O11 O6 O7 SO ON OS
            have H1 := H1x
            clear H1x
            have KM := KMx
            clear KMx
            have O8 := O8x
            clear O8x
            have O11 := O11x
            clear O11x
            have O6 := O6x
            clear O6x
            have O7 := O7x
            clear O7x
            have SO := SOx
            clear SOx
            have ON := ONx
            clear ONx
            have OS := OSx
            clear OSx
            have KM2 : Hid (Blk _ gm 27 #[.string X1, .int .i64 n1, .slice A8 nc c8, .string X2, .int .i64 n2, .slice A11 nm c11, .slice A6 rs.length c6, .slice (some ⟨gz, 0, none⟩) (lv.length + 1) cz]) := Lib.hid (by simpa using KM.out)
            clear KM
            go_wp2
            go_roundg nk
            case rel =>
              refine ⟨k + 1, rs, lv ++ [(⟨XN, a0, a1, a2, S⟩, Aj, cj)], A6, c6, some ⟨gz, 0, none⟩, cz, by omega, by omega, by go_num, ?_, H1, ?_, O8, O11, O6, ?_, ?_, ?_, RN⟩
              · rw [List.map_append, List.map_cons, List.map_nil, HSE.out]
                exact HRLN
              · rw [List.length_append]
                exact KM2
              · rw [List.length_append, lmCells_app]
                exact O7
              · exact Lib.hid fun x hx => by
                  rcases List.mem_append.1 hx with h | h
                  · exact SO.out x h
                  · rw [List.mem_singleton] at h
                    subst h
                    exact ⟨owns_low OS.out hzw, hy1, by show S.length ≤ _; omega⟩
              · rw [List.length_append]; simp only [List.length_cons, List.length_nil]; omega
            case measure => omega
    · obtain rfl : gk = 0 := by omega
      obtain rfl : k = N := by omega
      have hrl := RLE.out
      rw [List.drop_of_length_le (by rw [HN.out]; exact Nat.le_refl _)] at hrl
      have hrl2 : some (rs, lv.map (·.1)) = RL := hrl
      have hlo := HLO.out
      rw [← hrl2] at hlo
      have hlo2 : rLoose t = some ⟨X1, n1, cs, X2, n2, mv, rs, lv.map (·.1)⟩ := by rw [hlo]; show some (firstM Wl rs (lv.map (·.1))) = _; rw [HFM.out]
      have HLT := Lib.hid hlo2
      clear hrl hrl2 hlo hlo2 RLE
      have hat : MtAt wr wr.heap.size ⟨X1, n1, cs, X2, n2, mv, rs, lv.map (·.1)⟩ ⟨A8, c8, A11, c11, A6, c6, A7, c7, lv⟩ := ⟨IntsAt.of_row HCS.out O8.out, IntsAt.of_row HMV.out O11.out, RtsAt.of_row rfl O6.out, LmsAt.of_row rfl O7.out SO.out, rfl, by show X1.size ≤ _; omega, by show X2.size ≤ _; omega, fun r hr => by have := RN.out r hr; omega⟩
      have hcc : mtC ⟨X1, n1, cs, X2, n2, mv, rs, lv.map (·.1)⟩ ⟨A8, c8, A11, c11, A6, c6, A7, c7, lv⟩ = #[.string X1, .int .i64 n1, .slice A8 nc c8, .string X2, .int .i64 n2, .slice A11 nm c11, .slice A6 rs.length c6, .slice A7 lv.length c7] := by simp [mtC, HCS.out, HMV.out]
      have hc := rtext_any wr wr.heap.size ⟨X1, n1, cs, X2, n2, mv, rs, lv.map (·.1)⟩ ⟨A8, c8, A11, c11, A6, c6, A7, c7, lv⟩ hat (Nat.le_refl _) ⟨by show cs.length ≤ _; rw [HCS.out]; exact hncl, by show mv.length ≤ _; rw [HMV.out]; exact hnml, by show rs.length ≤ _; omega, by show (lv.map (·.1)).length ≤ _; rw [List.length_map]; omega⟩ (owns_cap O6.out)
      rw [hcc] at hc
      unfold TextPost at hc
      have HCC := Lib.hid hcc
      obtain ⟨TX, hTX⟩ : ∃ x, bs (if fmB ⟨X1, n1, cs, X2, n2, mv, rs, lv.map (·.1)⟩ then textL ⟨X1, n1, cs, X2, n2, mv, rs, lv.map (·.1)⟩ else []) = x := ⟨_, rfl⟩
      obtain ⟨EX, hEX⟩ : ∃ e : Int, (if fmB ⟨X1, n1, cs, X2, n2, mv, rs, lv.map (·.1)⟩ then (0 : Int) else 1) = e := ⟨_, rfl⟩
      rw [hTX, hEX] at hc
      have HC := Lib.hid hc
      have HTX := Lib.hid hTX
      have HEX := Lib.hid hEX
      clear hat hcc hc hTX hEX
      obtain ⟨k0, k1, k2⟩ := KM.out.all
      go_wp2_with fail
      refine HC.out.mono ?_
      rintro e W9 ⟨rfl, b9⟩
      clear k0 k1 k2 HC
      have H1x := Lib.hid (H1.out.trans (b9.mono H1.out.size))
      have KMx := Lib.hid (KM.out.below b9 KM.out.lt)
      have O8x := Lib.hid (own_self O8.out b9)
      have O11x := Lib.hid (own_self O11.out b9)
      have O6x := Lib.hid (own_self O6.out b9)
      have O7x := Lib.hid (own_self O7.out b9)
      have SOx := Lib.hid (SO.out.below b9)
      clear H1 KM O8 O11 O6 O7 SO
      have H1 := H1x
      clear H1x
      have KM := KMx
      clear KMx
      have O8 := O8x
      clear O8x
      have O11 := O11x
      clear O11x
      have O6 := O6x
      clear O6x
      have O7 := O7x
      clear O7x
      have SO := SOx
      clear SOx
      clear b9
      cases hf : fmB ⟨X1, n1, cs, X2, n2, mv, rs, lv.map (·.1)⟩ with
      | false =>
        obtain rfl : (1 : Int) = EX := by have := HEX.out; rw [hf] at this; exact this
        have HF := Lib.hid hf
        clear hf
        obtain ⟨rfl, rfl⟩ : E = 5 ∧ Z = Mt.zero := HEZ.out.2 (rparse_bad HLT.out (fun h => by have h2 := h.1; rw [HF.out] at h2; cases h2))
        have kr := KR1.out.below H1.out KR1.out.lt
        have hlv := row_load kr #[.string ⟨#[]⟩, .int .i64 0, .slice none 0 0, .string ⟨#[]⟩, .int .i64 0, .slice none 0 0, .slice none 0 0, .slice none 0 0] rfl
        have HLV := Lib.hid hlv
        have HKR := Lib.hid kr
        have hfin := mt_err (w := w) (E := 5) (below_row (HB1.out.trans (H1.out.mono HB1.out.size)) (Nat.le_refl _) #[.string ⟨#[]⟩, .int .i64 0, .slice none 0 0, .string ⟨#[]⟩, .int .i64 0, .slice none 0 0, .slice none 0 0, .slice none 0 0])
        have HFIN := Lib.hid hfin
        clear hlv hfin kr
        go_wp2_with (refine wp_row rfl (.tmp 2) (.tmp 189) rfl w.heap.size #[.string ⟨#[]⟩, .int .i64 0, .slice none 0 0, .string ⟨#[]⟩, .int .i64 0, .slice none 0 0, .slice none 0 0, .slice none 0 0] rfl rfl rfl one8 rfl HKR.out ?_)
        exact bodyPost_ret (v := .tuple #[.agg #[.string ⟨#[]⟩, .int .i64 0, .slice none 0 0, .string ⟨#[]⟩, .int .i64 0, .slice none 0 0, .slice none 0 0, .slice none 0 0], .int .i64 5]) (by simp [results, Tryz.results14, asAddr, HLV.out]) rfl HFIN.out
      | true =>
        obtain rfl : (0 : Int) = EX := by have := HEX.out; rw [hf] at this; exact this
        have hx : bs (textL ⟨X1, n1, cs, X2, n2, mv, rs, lv.map (·.1)⟩) = TX := by have := HTX.out; rw [hf] at this; exact this
        have HF := Lib.hid hf
        clear hf
        by_cases he : textL ⟨X1, n1, cs, X2, n2, mv, rs, lv.map (·.1)⟩ = t
        case neg =>
          have heq : (TX.toList == (bs t).toList) = false := by rw [← hx]; exact beq_bs he
          have HE2 := Lib.hid he
          clear he hx
          obtain ⟨rfl, rfl⟩ : E = 5 ∧ Z = Mt.zero := HEZ.out.2 (rparse_bad HLT.out (fun h => HE2.out h.2))
          have kr := KR1.out.below H1.out KR1.out.lt
          have hlv := row_load kr #[.string ⟨#[]⟩, .int .i64 0, .slice none 0 0, .string ⟨#[]⟩, .int .i64 0, .slice none 0 0, .slice none 0 0, .slice none 0 0] rfl
          have HLV := Lib.hid hlv
          have HKR := Lib.hid kr
          have hfin := mt_err (w := w) (E := 5) (below_row (HB1.out.trans (H1.out.mono HB1.out.size)) (Nat.le_refl _) #[.string ⟨#[]⟩, .int .i64 0, .slice none 0 0, .string ⟨#[]⟩, .int .i64 0, .slice none 0 0, .slice none 0 0, .slice none 0 0])
          have HFIN := Lib.hid hfin
          clear hlv hfin kr
          go_wp2_with (refine wp_row rfl (.tmp 2) (.tmp 189) rfl w.heap.size #[.string ⟨#[]⟩, .int .i64 0, .slice none 0 0, .string ⟨#[]⟩, .int .i64 0, .slice none 0 0, .slice none 0 0, .slice none 0 0] rfl rfl rfl one8 rfl HKR.out ?_)
          exact bodyPost_ret (v := .tuple #[.agg #[.string ⟨#[]⟩, .int .i64 0, .slice none 0 0, .string ⟨#[]⟩, .int .i64 0, .slice none 0 0, .slice none 0 0, .slice none 0 0], .int .i64 5]) (by simp [results, Tryz.results14, asAddr, HLV.out]) rfl HFIN.out
        rw [he] at hx
        subst hx
        have hpk := rparse_some HF.out he
        obtain ⟨rfl, rfl⟩ : E = 0 ∧ Z = looseM t := HEZ.out.1 hpk.1
        have hz := hpk.2
        obtain ⟨k0, k1, k2⟩ := KM.out.all
        have kr := KR1.out.below H1.out KR1.out.lt
        have hlv := row_load kr #[.string X1, .int .i64 n1, .slice A8 nc c8, .string X2, .int .i64 n2, .slice A11 nm c11, .slice A6 rs.length c6, .slice A7 lv.length c7] rfl
        have HLV := Lib.hid hlv
        have HKR := Lib.hid kr
        have bo := only_setRow W9 w.heap.size #[.string X1, .int .i64 n1, .slice A8 nc c8, .string X2, .int .i64 n2, .slice A11 nm c11, .slice A6 rs.length c6, .slice A7 lv.length c7]
        have hmm : MtAt (W9.setRow w.heap.size #[.string X1, .int .i64 n1, .slice A8 nc c8, .string X2, .int .i64 n2, .slice A11 nm c11, .slice A6 rs.length c6, .slice A7 lv.length c7]) (W9.setRow w.heap.size #[.string X1, .int .i64 n1, .slice A8 nc c8, .string X2, .int .i64 n2, .slice A11 nm c11, .slice A6 rs.length c6, .slice A7 lv.length c7]).heap.size ⟨X1, n1, cs, X2, n2, mv, rs, lv.map (·.1)⟩ ⟨A8, c8, A11, c11, A6, c6, A7, c7, lv⟩ :=
          ⟨IntsAt.of_row HCS.out (own_row O8.out kr (by decide) _), IntsAt.of_row HMV.out (own_row O11.out kr (by decide) _), RtsAt.of_row rfl (own_row O6.out kr (by decide) _),
            LmsAt.of_row rfl (own_row O7.out kr (by decide) _) (SO.out.only kr (by decide) bo), rfl, by show X1.size ≤ _; omega, by show X2.size ≤ _; omega, fun r hr => by have := RN.out r hr; omega⟩
        have hfin : MtPost w 0 (looseM t) (.returned (.tuple #[.agg #[.string X1, .int .i64 n1, .slice A8 nc c8, .string X2, .int .i64 n2, .slice A11 nm c11, .slice A6 rs.length c6, .slice A7 lv.length c7], .int .i64 0])) (W9.setRow w.heap.size #[.string X1, .int .i64 n1, .slice A8 nc c8, .string X2, .int .i64 n2, .slice A11 nm c11, .slice A6 rs.length c6, .slice A7 lv.length c7]) := ⟨⟨A8, c8, A11, c11, A6, c6, A7, c7, lv⟩, by rw [hz, HCC.out], by rw [hz]; exact hmm, below_row (HB1.out.trans (H1.out.mono HB1.out.size)) (Nat.le_refl _) _⟩
        have HFIN := Lib.hid hfin
        have HZ := Lib.hid hz
        clear hlv hfin hmm bo kr hpk he hz
        go_wp2_with (refine wp_row rfl (.tmp 2) (.tmp 190) rfl w.heap.size #[.string X1, .int .i64 n1, .slice A8 nc c8, .string X2, .int .i64 n2, .slice A11 nm c11, .slice A6 rs.length c6, .slice A7 lv.length c7] rfl rfl rfl one8 rfl HKR.out ?_)
        exact bodyPost_ret (v := .tuple #[.agg #[.string X1, .int .i64 n1, .slice A8 nc c8, .string X2, .int .i64 n2, .slice A11 nm c11, .slice A6 rs.length c6, .slice A7 lv.length c7], .int .i64 0]) (by simp [results, Tryz.results14, asAddr, HLV.out]) rfl HFIN.out
end Go.Proofs.YtgfahifdmacmhaaGreatDoor
