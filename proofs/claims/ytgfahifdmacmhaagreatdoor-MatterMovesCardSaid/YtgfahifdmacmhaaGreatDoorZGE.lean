/- Reading a domain as an argument; the reference's Few of a domain: what it promises. Reading a procedure as an argument. Slices of bytes and of booleans as arguments; Move and Grant with literal cells. -/
import Derived.Test.YtgfahifdmacmhaaGreatDoorZGC
import Derived.Test.YtgfahifdmacmhaaGreatDoorQy
import Derived.Test.YtgfahifdmacmhaaGreatDoorQo
import Derived.Test.YtgfahifdmacmhaaGreatDoorZYg
namespace Go.Proofs.YtgfahifdmacmhaaGreatDoor
open Go.RowKit Go.ChangeShapes Go.WideShapes Go.Deep

section
variable {H : Type} {enc : TypeId × Value → H} {w : World} {base : Nat} {spare : Nat → Bool} {held : Bool} {fuel len cap : Nat} {A : Option Addr} {x : DataW H × List MemPlace}
set_option maxRecDepth 100000 in
theorem facts_trod (hf : DataW.trod enc Tryz.prog w base spare held fuel 50 [.slice A len cap] = some x) : ∃ l : List Fc, l.length = len ∧ FcsAt w w.heap.size A l ∧ (∀ f ∈ l, f.name.size ≤ 9223372036854775807) ∧ len ≤ 9223372036854775807 := by
  have hlen := slice_len Tryz.underlying50 hf
  have hs := slice_elems Tryz.underlying50 (k := 4) (by kernel_rfl) (by decide) hf
  obtain ⟨l, hl, hp⟩ := list_of (p := fun i (v : Fc) => (∃ g off, A = some ⟨g, off, none⟩ ∧ g < w.heap.size ∧ w.cell? ⟨g, off + i * 4, none⟩ = some (.string v.name) ∧ w.cell? ⟨g, off + i * 4 + 1, none⟩ = some (.int .i64 v.kind) ∧ w.cell? ⟨g, off + i * 4 + 2, none⟩ = some (.int .i64 v.lo) ∧ w.cell? ⟨g, off + i * 4 + 3, none⟩ = some (.int .i64 v.hi)) ∧ v.name.size ≤ 9223372036854775807) len (fun i hi => by
    obtain ⟨g, off, n, vs, y, hA, hg, hvl, hc, ht'⟩ := hs i hi
    match vs, hvl with
    | [v0, v1, v2, v3], _ =>
      obtain ⟨xs, n, _, hx, hl, hlen, hfl⟩ := DataW.trod_struct Tryz.underlying104 ht'
      have hlen2 : xs.length = 4 := hlen
      have gg : ∀ i, i < xs.length → ∃ y, xs[i]? = some y := fun i hi => ⟨_, List.getElem?_eq_getElem hi⟩
      obtain ⟨y0, e0⟩ := gg 0 (by omega)
      obtain ⟨y1, e1⟩ := gg 1 (by omega)
      obtain ⟨y2, e2⟩ := gg 2 (by omega)
      obtain ⟨y3, e3⟩ := gg 3 (by omega)
      obtain ⟨s, h0, _, w0⟩ := DataW.trod_string Tryz.underlying9 ((hfl 0 _ rfl).trans e0)
      obtain ⟨k1, h1, _, _⟩ := DataW.trod_int Tryz.underlying3 ((hfl 1 _ rfl).trans e1)
      obtain ⟨k2, h2, _, _⟩ := DataW.trod_int Tryz.underlying3 ((hfl 2 _ rfl).trans e2)
      obtain ⟨k3, h3, _, _⟩ := DataW.trod_int Tryz.underlying3 ((hfl 3 _ rfl).trans e3)
      have q0 : v0 = .string s := by injection h0
      have q1 : v1 = .int .i64 k1 := by injection h1
      have q2 : v2 = .int .i64 k2 := by injection h2
      have q3 : v3 = .int .i64 k3 := by injection h3
      subst q0 q1 q2 q3
      exact ⟨⟨s, k1, k2, k3⟩, ⟨g, off, hA, hg, hc 0 _ rfl, hc 1 _ rfl, hc 2 _ rfl, hc 3 _ rfl⟩, w0⟩)
  exact ⟨l, hl, fun i v h => (hp i v h).1, fun s h => by obtain ⟨i, hi⟩ := List.getElem?_of_mem h; exact (hp i s hi).2, hlen⟩
/-- What a domain at an argument gives. -/
def DmIn (w : World) (z : List Fc × Option Addr × Nat) : Prop := DmAt w w.heap.size z.1 z.2.1 ∧ z.1.length ≤ 9223372036854775807
set_option maxRecDepth 100000 in
theorem domain_at {v : Value} {d : DataW H} {p : List MemPlace} {cs : Array Value} (hv : v = .agg cs) (hsz : cs.size = Tryz.prog.cellsOf 52)
    (h : DataW.Trod enc Tryz.prog w base spare held 52 v d p) : ∃ z : List Fc × Option Addr × Nat, v = .agg #[.slice z.2.1 z.1.length z.2.2] ∧ DmIn w z := by
  subst hv
  have h2 : Tryz.prog.cellsOf 52 = 1 := by kernel_rfl
  rw [h2] at hsz
  obtain ⟨fuel, hf⟩ := h
  have hc : (Value.agg cs).cells.toList = cs.toList := rfl
  rw [hc] at hf
  obtain ⟨c0, hcs⟩ : ∃ c0, cs = #[c0] := by
    obtain ⟨l⟩ := cs
    match l, hsz with
    | [c0], _ => exact ⟨c0, rfl⟩
  subst hcs
  obtain ⟨xs, n, _, hx, hl, hlen, hfl⟩ := DataW.trod_struct Tryz.underlying52 hf
  have g : ∀ i, i < xs.length → ∃ y, xs[i]? = some y := fun i hi => ⟨_, List.getElem?_eq_getElem hi⟩
  have hlen2 : xs.length = 1 := hlen
  obtain ⟨y0, e0⟩ := g 0 (by omega)
  have t0 : DataW.trod enc Tryz.prog w base spare held n 50 [c0] = some y0 := (hfl 0 _ rfl).trans e0
  obtain ⟨A0, l0, q0, rfl⟩ := slice_form Tryz.underlying50 t0
  obtain ⟨fs, hfs, b0, n0, m0⟩ := facts_trod t0
  subst hfs
  exact ⟨(fs, A0, q0), rfl, ⟨b0, n0⟩, m0⟩
end

set_option maxRecDepth 100000 in
set_option maxHeartbeats 4000000 in
theorem few6_any (w : World) (B : Nat) (d : List Fc) (A : Option Addr) (c : Nat) (h : DmAt w B d A) (hB : B ≤ w.heap.size) (z1 : d.length ≤ 9223372036854775807) (most : Nat) :
    Calls Tryz.prog 20 #[.agg #[.slice A d.length c], .int .i64 (most : Int)] w (FewPost w (d.length ≤ most)) := by
  obtain ⟨n, h1⟩ : ∃ k, d.length = k := ⟨_, rfl⟩
  have H := Lib.hid (h.at_)
  have HB := Lib.hid hB
  have HV := Lib.hid h1
  rw [h1] at z1 ⊢
  obtain ⟨PP, hPP⟩ : ∃ P : Prop, (n ≤ most) = P := ⟨_, rfl⟩
  have hpp : n ≤ most → PP := fun h => hPP ▸ h
  rw [hPP]
  have HPP := Lib.hid hpp
  clear h hB h1 hpp hPP
  have hb := below_self_alloc w (.cells #[.slice A n c] 52)
  have k0 := Blk.new w 52 #[.slice A n c]
  have no : ∀ w', Below w.heap.size w w' → FewPost w PP (.returned (.bool false)) w' := fun w' h => ⟨false, rfl, (fun h => by cases h), h⟩
  have NO := Lib.hid no
  have hfs : FcsAt (w.alloc (.cells #[.slice A n c] 52)) B A d := H.out.below (hb.mono HB.out)
  have HR := Lib.hid hfs
  clear no hfs
  obtain ⟨t0, t1, -⟩ := k0.all
  go_enter Tryz.func20, Tryz.ntmps20
  go_wp2_with fail
  have HB0 := Lib.hid hb
  have K0 := Lib.hid k0
  clear t0 t1 hb k0
  generalize w.alloc (.cells #[.slice A n c] 52) = W0 at *
  go_loop [5] (fun i => ∃ k : Nat, k ≤ n ∧ i = .int .i64 (k : Int)) (fun i => n - (intOf i).toNat)
  case atStart => exact ⟨0, Nat.zero_le _, rfl⟩
  case round =>
    obtain ⟨k, hk, rfl⟩ := hrel
    obtain ⟨t0, t1, -⟩ := K0.out.all
    by_cases hlt : k < n
    · by_cases hm : k < most
      · obtain ⟨x, hx⟩ : ∃ x, d[k]? = some x := ⟨_, List.getElem?_eq_getElem (by rw [HV.out]; exact hlt)⟩
        obtain ⟨ga, oa, hA, hga, p0, p1, p2, p3⟩ := HR.out k x hx
        subst hA
        obtain ⟨xn, xk, xl, xh⟩ := x
        simp only at p0
        clear hx p1 p2 p3
        by_cases q5 : (100 : Int) < (xn.size : Int)
        · have d6 : decide ((100 : Int) < (xn.size : Int)) = true := decide_eq_true q5
          go_wp2
          go_ret
          exact NO.out _ HB0.out
        · have d6 : decide ((100 : Int) < (xn.size : Int)) = false := decide_eq_false q5
          go_wp2
          go_round
          case rel => exact ⟨k + 1, by omega, by go_num⟩
          case measure => simp [intOf]; omega
      · have dd : decide ((n : Int) ≤ (most : Int)) = false := decide_eq_false (by omega)
        have _dn : ¬ n ≤ most := by omega
        go_wp2
        go_ret
        exact ⟨_, rfl, (by simp), HB0.out⟩
    · obtain rfl : n = k := by omega
      by_cases hkm : n ≤ most
      · have dd : decide ((n : Int) ≤ (most : Int)) = true := decide_eq_true (by omega)
        go_wp2
        go_ret
        exact ⟨_, rfl, fun _ => HPP.out hkm, HB0.out⟩
      · have dd : decide ((n : Int) ≤ (most : Int)) = false := decide_eq_false (by omega)
        go_wp2
        go_ret
        exact ⟨_, rfl, (by simp), HB0.out⟩
end Go.Proofs.YtgfahifdmacmhaaGreatDoor

namespace Go.Proofs.YtgfahifdmacmhaaGreatDoor
open Go.RowKit Go.ChangeShapes Go.WideShapes Go.Deep

section
variable {H : Type} {enc : TypeId × Value → H} {w : World} {base : Nat} {spare : Nat → Bool} {held : Bool} {fuel len cap : Nat} {A : Option Addr} {x : DataW H × List MemPlace}
set_option maxRecDepth 100000 in
theorem moves_trod (hf : DataW.trod enc Tryz.prog w base spare held fuel 44 [.slice A len cap] = some x) : ∃ S : List I2, S.length = len ∧ StopsAt w w.heap.size A S ∧ len ≤ 9223372036854775807 := by
  have hlen := slice_len Tryz.underlying44 hf
  have hs := slice_elems Tryz.underlying44 (k := 2) (by kernel_rfl) (by decide) hf
  obtain ⟨l, hl, hp⟩ := list_of (p := fun i (s : I2) => ∃ g off, A = some ⟨g, off, none⟩ ∧ g < w.heap.size ∧ w.cell? ⟨g, off + i * 2, none⟩ = some (.int .i64 s.1) ∧ w.cell? ⟨g, off + i * 2 + 1, none⟩ = some (.int .i64 s.2)) len (fun i hi => by
    obtain ⟨g, off, n, vs, y, hA, hg, hvl, hc, ht'⟩ := hs i hi
    match vs, hvl with
    | [v0, v1], _ =>
      obtain ⟨xs, n, _, hx, hl, hlen, hfl⟩ := DataW.trod_array Tryz.underlying101 ht'
      have c1 : Tryz.prog.cellsOf 3 = 1 := by kernel_rfl
      have gg : ∀ i, i < xs.length → ∃ y, xs[i]? = some y := fun i hi => ⟨_, List.getElem?_eq_getElem hi⟩
      obtain ⟨y0, e0⟩ := gg 0 (by omega)
      obtain ⟨y1, e1⟩ := gg 1 (by omega)
      have t0 := (hfl 0 (by decide)).trans e0
      have t1 := (hfl 1 (by decide)).trans e1
      rw [c1] at t0 t1
      obtain ⟨s, h0, _, _⟩ := DataW.trod_int Tryz.underlying3 t0
      obtain ⟨d, h1, _, _⟩ := DataW.trod_int Tryz.underlying3 t1
      have q0 : v0 = .int .i64 s := by simpa using h0
      have q1 : v1 = .int .i64 d := by simpa using h1
      subst q0 q1
      exact ⟨(s, d), g, off, hA, hg, hc 0 _ rfl, hc 1 _ rfl⟩)
  exact ⟨l, hl, hp, hlen⟩
/-- What a procedure at an argument gives. -/
def PcIn (w : World) (z : Pc × PcX) : Prop := PcAt w w.heap.size z.1 z.2 ∧ z.1.ss.length ≤ 9223372036854775807 ∧ z.1.ms.length ≤ 9223372036854775807
set_option maxRecDepth 100000 in
theorem procedure_at {v : Value} {d : DataW H} {p : List MemPlace} {cs : Array Value} (hv : v = .agg cs) (hsz : cs.size = Tryz.prog.cellsOf 46)
    (h : DataW.Trod enc Tryz.prog w base spare held 46 v d p) : ∃ z : Pc × PcX, v = .agg (pcC z.1 z.2) ∧ PcIn w z := by
  subst hv
  have h2 : Tryz.prog.cellsOf 46 = 3 := by kernel_rfl
  rw [h2] at hsz
  obtain ⟨fuel, hf⟩ := h
  have hc : (Value.agg cs).cells.toList = cs.toList := rfl
  rw [hc] at hf
  obtain ⟨c0, c1, c2, hcs⟩ : ∃ c0 c1 c2, cs = #[c0, c1, c2] := by
    obtain ⟨l⟩ := cs
    match l, hsz with
    | [c0, c1, c2], _ => exact ⟨c0, c1, c2, rfl⟩
  subst hcs
  obtain ⟨xs, n, _, hx, hl, hlen, hfl⟩ := DataW.trod_struct Tryz.underlying46 hf
  have g : ∀ i, i < xs.length → ∃ y, xs[i]? = some y := fun i hi => ⟨_, List.getElem?_eq_getElem hi⟩
  have hlen2 : xs.length = 3 := hlen
  obtain ⟨y0, e0⟩ := g 0 (by omega)
  obtain ⟨y1, e1⟩ := g 1 (by omega)
  obtain ⟨y2, e2⟩ := g 2 (by omega)
  obtain ⟨k0, h0, _, w0⟩ := DataW.trod_string Tryz.underlying9 ((hfl 0 _ rfl).trans e0)
  have t1 : DataW.trod enc Tryz.prog w base spare held n 43 [c1] = some y1 := (hfl 1 _ rfl).trans e1
  have t2 : DataW.trod enc Tryz.prog w base spare held n 44 [c2] = some y2 := (hfl 2 _ rfl).trans e2
  obtain ⟨A1, l1, q1, rfl⟩ := slice_form Tryz.underlying43 t1
  obtain ⟨A2, l2, q2, rfl⟩ := slice_form Tryz.underlying44 t2
  have r0 : c0 = .string k0 := by injection h0
  subst r0
  obtain ⟨ss, hss, b1, n1, m1⟩ := strs_trod Tryz.underlying43 t1
  obtain ⟨ms, hms, b2, m2⟩ := moves_trod t2
  subst hss hms
  exact ⟨(⟨k0, ss, ms⟩, ⟨A1, q1, A2, q2⟩), rfl, ⟨b1, b2, w0, n1⟩, m1, m2⟩
end
end Go.Proofs.YtgfahifdmacmhaaGreatDoor

namespace Go.Proofs.YtgfahifdmacmhaaGreatDoor
open Go.RowKit Go.Shelf Go.ChangeShapes Go.WideShapes Go.Deep

def U8At (w : World) (B : Nat) (A : Option Addr) (l : List Int) : Prop := ∀ (i : Nat) (x : Int), l[i]? = some x → ∃ g off, A = some ⟨g, off, none⟩ ∧ g < B ∧ w.cell? ⟨g, off + i, none⟩ = some (.int .u8 x) ∧ 0 ≤ x ∧ x ≤ 255
def BlAt (w : World) (B : Nat) (A : Option Addr) (l : List Bool) : Prop := ∀ (i : Nat) (x : Bool), l[i]? = some x → ∃ g off, A = some ⟨g, off, none⟩ ∧ g < B ∧ w.cell? ⟨g, off + i, none⟩ = some (.bool x)
theorem U8At.below {w w' : World} {B : Nat} {A : Option Addr} {l : List Int} (h : U8At w B A l) (hb : Below B w w') : U8At w' B A l := fun i x hi => by
  obtain ⟨g, off, hA, hg, c0, hr⟩ := h i x hi
  exact ⟨g, off, hA, hg, (hb.cell (p := ⟨g, off + i, none⟩) hg).trans c0, hr⟩
theorem BlAt.below {w w' : World} {B : Nat} {A : Option Addr} {l : List Bool} (h : BlAt w B A l) (hb : Below B w w') : BlAt w' B A l := fun i x hi => by
  obtain ⟨g, off, hA, hg, c0⟩ := h i x hi
  exact ⟨g, off, hA, hg, (hb.cell (p := ⟨g, off + i, none⟩) hg).trans c0⟩
section
variable {H : Type} {enc : TypeId × Value → H} {w : World} {base : Nat} {spare : Nat → Bool} {held : Bool} {len cap : Nat} {A : Option Addr} {d : DataW H} {p : List MemPlace}
set_option maxRecDepth 100000 in
theorem cells1 {t e : TypeId} (ht : Tryz.prog.underlying t = some (.slice e)) (hc1 : Tryz.prog.cellsOf e = 1) {β : Type} (f : β → Value) (G : β → Prop)
    (hv : ∀ (n : Nat) (cs : List Value) (y : DataW H × List MemPlace), DataW.trod enc Tryz.prog w base spare held n e cs = some y → ∃ v, cs = [f v] ∧ G v)
    (h : DataW.Trod enc Tryz.prog w base spare held t (.slice A len cap) d p) : ∃ l : List β, l.length = len ∧ ∀ (i : Nat) (x : β), l[i]? = some x → ∃ g off, A = some ⟨g, off, none⟩ ∧ g < w.heap.size ∧ w.cell? ⟨g, off + i, none⟩ = some (f x) ∧ G x := by
  obtain ⟨m, hm0⟩ := h
  have h : DataW.trod enc Tryz.prog w base spare held m t [.slice A len cap] = some (d, p) := hm0
  have key : ∀ i, i < len → ∃ x : β, ∃ g off, A = some ⟨g, off, none⟩ ∧ g < w.heap.size ∧ w.cell? ⟨g, off + i, none⟩ = some (f x) ∧ G x := by
    intro i hi
    rcases open_slice ht h with ⟨h0, _⟩ | ⟨a, len', cap', m, n, D, Pl, hcs, hb, hl, hm, hmm, hx, hall⟩
    · injection h0 with h0
      injection h0 with _ h1 _
      omega
    · injection hcs with hcs _
      injection hcs with hA hle hca
      subst hA hle hca
      have cell : ∀ i, i < len → ∃ v : β, w.cell? (a.add i) = some (f v) ∧ G v := by
        intro i hi
        obtain ⟨cs', hc, ht'⟩ := hall i (by rw [hmm]; split <;> omega)
        rw [hc1, Nat.mul_one] at hc
        obtain ⟨v, rfl, hw⟩ := hv _ _ _ ht'
        obtain ⟨_, _, hat⟩ := World.cells?_some hc
        have := hat 0 (by omega)
        rw [add_of_add, Nat.add_zero] at this
        exact ⟨v, by rw [this]; rfl, hw⟩
      obtain ⟨v0, hv0, -⟩ := cell 0 (by omega)
      obtain ⟨v, hv, hw⟩ := cell i hi
      have ha := spot_none hv0
      have ha0 : a.add 0 = a := by obtain ⟨b, o, s⟩ := a; simp [Addr.add]
      rw [ha0, Nat.add_zero] at ha
      have hai := spot_none hv
      rw [hai] at hv
      exact ⟨v, a.block, a.off, by rw [← ha], World.block_lt_of_cell? w ⟨a.block, a.off + i, none⟩ hv, hv, hw⟩
  exact list_of len key
set_option maxRecDepth 100000 in
theorem u8s_at (h : DataW.Trod enc Tryz.prog w base spare held 56 (.slice A len cap) d p) : ∃ l : List Int, l.length = len ∧ U8At w w.heap.size A l := by
  obtain ⟨l, hl, hp⟩ := cells1 Tryz.underlying56 (by kernel_rfl) (fun x : Int => Value.int .u8 x) (fun x => 0 ≤ x ∧ x ≤ 255) (fun n cs y h => by
    obtain ⟨v, h0, _, hw⟩ := DataW.trod_int Tryz.underlying5 h
    refine ⟨v, h0, ?_⟩
    have := hw
    simp [Lit.wf, IntKind.min, IntKind.max, IntKind.signed, IntKind.bits] at this
    omega) h
  exact ⟨l, hl, hp⟩
set_option maxRecDepth 100000 in
theorem bools_at (h : DataW.Trod enc Tryz.prog w base spare held 57 (.slice A len cap) d p) : ∃ l : List Bool, l.length = len ∧ BlAt w w.heap.size A l := by
  obtain ⟨l, hl, hp⟩ := cells1 Tryz.underlying57 (by kernel_rfl) (fun x : Bool => Value.bool x) (fun _ => True) (fun n cs y h => by
    obtain ⟨v, h0, _⟩ := DataW.trod_bool Tryz.underlying4 h
    exact ⟨v, h0, trivial⟩) h
  exact ⟨l, hl, fun i x hi => by obtain ⟨g, off, a, b, c, _⟩ := hp i x hi; exact ⟨g, off, a, b, c⟩⟩
end
/-- A matter and an error returned, cells written out; a block free of the old matter stays free of the new one. -/
def LitO (w : World) (m0 : Mt) (x0 : MtX) (E : Int) (id : ByteArray) (o : Int) (n1 : Nat) (pr : ByteArray) (st : Int) (n2 n3 n4 : Nat) (m : Mt) (e : Ending) (w' : World) : Prop :=
  ∃ p1 q1 p2 q2 p3 q3 p4 q4 lv, e = .returned (.tuple #[.agg #[.string id, .int .i64 o, .slice p1 n1 q1, .string pr, .int .i64 st, .slice p2 n2 q2, .slice p3 n3 q3, .slice p4 n4 q4], .int .i64 E]) ∧ (MtAt w' w'.heap.size m ⟨p1, q1, p2, q2, p3, q3, p4, q4, lv⟩ ∧ ∀ g, g < w.heap.size → Off g m0 x0 → Off g m ⟨p1, q1, p2, q2, p3, q3, p4, q4, lv⟩) ∧ Below w.heap.size w w'
theorem litO_of {w w' : World} {m0 : Mt} {x0 : MtX} {E : Int} {m : Mt} {e : Ending} (h : MtPostO w m0 x0 E m e w') : LitO w m0 x0 E m.id m.o m.cs.length m.pr m.st m.mv.length m.rs.length m.ls.length m e w' := by
  obtain ⟨x, he, hm, hb⟩ := h
  exact ⟨x.a1, x.c1, x.a2, x.c2, x.a3, x.c3, x.a4, x.c4, x.lv, he, hm, hb⟩
/-- What one step of the law's makes of a matter. -/
def StepOk (p : Pc) (d : List Fc) (m : Mt) (E : Int) (z : Mt) : Prop := (E = 0 ∧ z.id = m.id ∧ z.o = m.o ∧ z.cs = m.cs ∧ z.pr = m.pr ∧ z.ls = m.ls ∧ vldB z p d = true ∧ ∀ r ∈ m.rs, r ∈ z.rs) ∨ (E ≠ 0 ∧ z = Mt.zero)
theorem grant_step {p : Pc} {d : List Fc} {m : Mt} {n : ByteArray} {day : Int} (h : vldB m p d = true) : StepOk p d m (grantE m n day) (grantM m n day) := by
  by_cases hE : grantE m n day = 0
  · have hM : grantM m n day = { m with rs := m.rs ++ [(n, day)] } := by unfold grantM; rw [if_pos hE]
    rw [hM]
    exact Or.inl ⟨hE, rfl, rfl, rfl, rfl, rfl, vld_grant h hE, fun r hr => List.mem_append_left _ hr⟩
  · exact Or.inr ⟨hE, by unfold grantM; rw [if_neg hE]⟩
theorem move_step {p : Pc} {d : List Fc} {m : Mt} {s day : Int} (h : vldB m p d = true) : StepOk p d m (moveE m p s day) (moveM m p s day) := by
  by_cases hE : moveE m p s day = 0
  · have hM : moveM m p s day = { m with st := s, mv := m.mv ++ [day] } := by unfold moveM; rw [if_pos hE]
    rw [hM]
    exact Or.inl ⟨hE, rfl, rfl, rfl, rfl, rfl, vld_move h hE, fun r hr => hr⟩
  · exact Or.inr ⟨hE, by unfold moveM; rw [if_neg hE]⟩
theorem vld_sml {m : Mt} {p : Pc} {d : List Fc} (h : vldB m p d = true) : Sml m := by
  obtain ⟨f1, f2, f3, f4, f5, f6, f7, f8, f9, f10⟩ := fmB_iff.1 (vldB_iff.1 h).1
  have h3 := (difB_iff.1 f9).2.2
  have h4 := (difB_iff.1 f10).2.2
  exact ⟨by omega, by omega, by omega, by omega⟩
/-- A step's result, cells written out. -/
def StepLit (p : Pc) (d : List Fc) (m : Mt) (x : MtX) (G : Mt → Prop) (w : World) (e : Ending) (w' : World) : Prop :=
  ∃ (E : Int) (zi : ByteArray) (zo : Int) (zc : List Int) (zp : ByteArray) (zs : Int) (zm : List Int) (zr : List Rt) (zl : List Lm) (p1 : Option Addr) (q1 : Nat) (p2 : Option Addr) (q2 : Nat) (p3 : Option Addr) (q3 : Nat) (p4 : Option Addr) (q4 : Nat) (v9 : List LmV), e = .returned (.tuple #[.agg #[.string zi, .int .i64 zo, .slice p1 zc.length q1, .string zp, .int .i64 zs, .slice p2 zm.length q2, .slice p3 zr.length q3, .slice p4 zl.length q4], .int .i64 E]) ∧ Hid (MtAt w' w'.heap.size ⟨zi, zo, zc, zp, zs, zm, zr, zl⟩ ⟨p1, q1, p2, q2, p3, q3, p4, q4, v9⟩) ∧ Hid (∀ g, g < w.heap.size → Off g m x → Off g ⟨zi, zo, zc, zp, zs, zm, zr, zl⟩ ⟨p1, q1, p2, q2, p3, q3, p4, q4, v9⟩) ∧ Below w.heap.size w w' ∧ Hid (StepOk p d m E ⟨zi, zo, zc, zp, zs, zm, zr, zl⟩) ∧ Hid (E = 0 → G ⟨zi, zo, zc, zp, zs, zm, zr, zl⟩)
theorem stepLit_of {p : Pc} {d : List Fc} {m : Mt} {x : MtX} {G : Mt → Prop} {w w' : World} {E : Int} {z : Mt} {e : Ending} (h : MtPostO w m x E z e w') (hs : StepOk p d m E z) (hg : E = 0 → G z) : StepLit p d m x G w e w' := by
  obtain ⟨y, he, ⟨hm, ho⟩, hb⟩ := h
  obtain ⟨zi, zo, zc, zp, zs, zm, zr, zl⟩ := z
  exact ⟨E, zi, zo, zc, zp, zs, zm, zr, zl, y.a1, y.c1, y.a2, y.c2, y.a3, y.c3, y.a4, y.c4, y.lv, he, Lib.hid hm, Lib.hid ho, hb, Lib.hid hs, Lib.hid hg⟩
set_option maxRecDepth 100000 in
theorem grant_lit (w : World) (p : Pc) (d : List Fc) (m : Mt) (x : MtX) (h : MtAt w w.heap.size m x) (hv : vldB m p d = true) (n : ByteArray) (hn : n.size ≤ 9223372036854775807) (day : Int) :
    Calls Tryz.prog 17 #[.agg (mtC m x), .string n, .int .i64 day] w (StepLit p d m x (fun z => hasB z.rs n day = true) w) :=
  (grant_off w w.heap.size m x h (Nat.le_refl _) (vld_sml hv) n hn day).mono fun e w' q => stepLit_of q (grant_step hv) fun hE => by
    unfold grantM
    rw [if_pos hE]
    exact has_self (r := (n, day)) (List.mem_append_right _ (List.mem_singleton_self _))
set_option maxRecDepth 100000 in
theorem move_lit (w : World) (p : Pc) (y : PcX) (d : List Fc) (m : Mt) (x : MtX) (h : MtAt w w.heap.size m x) (hv : vldB m p d = true) (hp : PcAt w w.heap.size p y) (hsp : SmlP p) (s day : Int) :
    Calls Tryz.prog 19 #[.agg (mtC m x), .agg (pcC p y), .int .i64 s, .int .i64 day] w (StepLit p d m x (fun z => (m.st, z.st) ∈ p.ms ∧ z.mv = m.mv ++ [day] ∧ z.rs = m.rs) w) :=
  (move_off w w.heap.size m x h (Nat.le_refl _) (vld_sml hv) p y hp hsp s day).mono fun e w' q => stepLit_of q (move_step hv) fun hE => by
    unfold moveM
    rw [if_pos hE]
    exact ⟨(moveE_ok hE).2.2.2.2.2.1, rfl, rfl⟩
theorem DmAt.wide {w : World} {B B' : Nat} {d : List Fc} {A : Option Addr} (h : DmAt w B d A) (hB : B ≤ B') : DmAt w B' d A := ⟨fun i x hi => by
  obtain ⟨g, off, hA, hg, r⟩ := h.at_ i x hi
  exact ⟨g, off, hA, Nat.lt_of_lt_of_le hg hB, r⟩, h.nm⟩
end Go.Proofs.YtgfahifdmacmhaaGreatDoor
