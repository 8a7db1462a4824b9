/- Part 8 of what the laws of this seat stand on: Kl, Kn, Na, Nb, Ng, Nh, Px. -/
import Derived.Test.YtieicjjmkedgaaaGreatDoorY7
import Derived.Lib.BufSteps

/- Reading the arguments of the statements about the journal; light; an Append of a list with a long record. -/
namespace Go.Proofs.YtieicjjmkedgaaaGreatDoor
open Go.RowKit Go.Shelf Go.ChangeShapes Go.WideShapes Go.Deep

theorem i64_bd {n : Int} (h : (Lit.int .i64 n).wf = true) : -9223372036854775808 ≤ n ∧ n ≤ 9223372036854775807 := by
  simpa [Lit.wf, IntKind.min, IntKind.max, IntKind.signed, IntKind.bits] using h
/-- A slice of texts at an argument. -/
theorem strs_of {H : Type} {enc : TypeId × Value → H} {w : World} {base : Nat} {spare : Nat → Bool} {held : Bool} {fuel len cap : Nat} {A : Option Addr} {x : DataW H × List MemPlace}
    (h : DataW.trod enc Tryz.prog w base spare held fuel 30 [.slice A len cap] = some x) : ∃ l : List (List UInt8), l.length = len ∧ StrsAt w w.heap.size A l ∧ len ≤ 9223372036854775807 := by
  have ht := Tryz.underlying30
  have he := Tryz.underlying9
  have c1 : Tryz.prog.cellsOf 9 = 1 := by kernel_rfl
  have key : ∀ i, i < len → ∃ v : List UInt8, ∃ g off, A = some ⟨g, off, none⟩ ∧ g < w.heap.size ∧ w.cell? ⟨g, off + i, none⟩ = some (.string (bs v)) := by
    intro i hi
    rcases open_slice ht h with ⟨h0, _⟩ | ⟨a, len', cap', m, n, D, Pl, hcs, hb, hl, hm, hmm, hx, hall⟩
    · injection h0 with h0
      injection h0 with _ h1 _
      omega
    · injection hcs with hcs _
      injection hcs with hA hle hca
      subst hA hle hca
      have cell : ∀ i, i < len → ∃ v : List UInt8, w.cell? (a.add i) = some (.string (bs v)) := by
        intro i hi
        obtain ⟨cs', hc, ht'⟩ := hall i (by rw [hmm]; split <;> omega)
        rw [c1, Nat.mul_one] at hc
        obtain ⟨v, rfl, -, _⟩ := DataW.trod_string he ht'
        obtain ⟨_, _, hat⟩ := World.cells?_some hc
        have := hat 0 (by omega)
        rw [add_of_add, Nat.add_zero] at this
        exact ⟨v.data.toList, by rw [this]; rfl⟩
      obtain ⟨v0, hv0⟩ := cell 0 (by omega)
      obtain ⟨v, hv⟩ := cell i hi
      have ha := spot_none hv0
      have ha0 : a.add 0 = a := by obtain ⟨b, o, s⟩ := a; simp [Addr.add]
      rw [ha0, Nat.add_zero] at ha
      have hai := spot_none hv
      rw [hai] at hv
      exact ⟨v, a.block, a.off, by rw [← ha], World.block_lt_of_cell? w ⟨a.block, a.off + i, none⟩ hv, hv⟩
  obtain ⟨l, hl, hp⟩ := list_of len key
  refine ⟨l, hl, fun i v hi => hp i v hi, slice_len ht h⟩
theorem strs_at {H : Type} {enc : TypeId × Value → H} {w : World} {base : Nat} {spare : Nat → Bool} {held : Bool} {len cap : Nat} {A : Option Addr} {d : DataW H} {p : List MemPlace}
    (h : DataW.Trod enc Tryz.prog w base spare held 30 (.slice A len cap) d p) : ∃ l : List (List UInt8), l.length = len ∧ (StrsAt w w.heap.size A l ∧ l.length ≤ 9223372036854775807) := by
  obtain ⟨m, hm⟩ := h
  obtain ⟨l, h1, h2, h3⟩ := strs_of hm
  exact ⟨l, h1, h2, by omega⟩
theorem slice_form {H : Type} {enc : TypeId × Value → H} {w : World} {base : Nat} {spare : Nat → Bool} {held : Bool} {fuel : Nat} {v : Value} {x : DataW H × List MemPlace}
    (h : DataW.trod enc Tryz.prog w base spare held fuel 30 [v] = some x) : ∃ A n c, v = .slice A n c := by
  rcases DataW.trod_slice Tryz.underlying30 h with ⟨h0, _⟩ | ⟨a, len, cap, _, _, _, _, h0, _⟩
  · injection h0 with h0
    exact ⟨_, _, _, h0⟩
  · injection h0 with h0
    exact ⟨_, _, _, h0⟩
/-- An operation: what the statements' lists hold. -/
structure OpJ where
  kind : Int
  la : Option Addr
  lc : Nat
  list : List (List UInt8)
  at_ : Int
  writes : Int
  bytes : Int
def OpJ.cells (o : OpJ) : List Value := [.int .i64 o.kind, .slice o.la o.list.length o.lc, .int .i64 o.at_, .int .i64 o.writes, .int .i64 o.bytes]
structure OpsAt (w : World) (B : Nat) (A : Option Addr) (l : List OpJ) : Prop where
  cell : ∀ (i : Nat) (o : OpJ), l[i]? = some o → ∃ g off, A = some ⟨g, off, none⟩ ∧ g < B ∧ ∀ (k : Nat) (v : Value), o.cells[k]? = some v → w.cell? ⟨g, off + i * 5 + k, none⟩ = some v
  strs : ∀ o ∈ l, StrsAt w B o.la o.list ∧ o.list.length ≤ 9223372036854775807
  bd : ∀ o ∈ l, o.at_ ≤ 9223372036854775807
  len : l.length ≤ 9223372036854775807
theorem OpsAt.below {w w' : World} {B : Nat} {A : Option Addr} {l : List OpJ} (h : OpsAt w B A l) (hb : Below B w w') : OpsAt w' B A l where
  cell i o hi := by
    obtain ⟨g, off, h1, h2, h3⟩ := h.cell i o hi
    exact ⟨g, off, h1, h2, fun k v hv => (hb.cell (p := ⟨g, off + i * 5 + k, none⟩) h2).trans (h3 k v hv)⟩
  strs o ho := ⟨(h.strs o ho).1.below hb, (h.strs o ho).2⟩
  bd := h.bd
  len := h.len
theorem OpsAt.later {w w' : World} {A : Option Addr} {l : List OpJ} (h : OpsAt w w.heap.size A l) (hb : Below w.heap.size w w') : OpsAt w' w'.heap.size A l where
  cell i o hi := by
    obtain ⟨g, off, h1, h2, h3⟩ := (h.below hb).cell i o hi
    exact ⟨g, off, h1, Nat.lt_of_lt_of_le h2 hb.size, h3⟩
  strs o ho := ⟨((h.below hb).strs o ho).1.wide hb.size, (h.strs o ho).2⟩
  bd := h.bd
  len := h.len
theorem ops_at {H : Type} {enc : TypeId × Value → H} {w : World} {base : Nat} {spare : Nat → Bool} {held : Bool} {A : Option Addr} {len cap : Nat} {d : DataW H} {p : List MemPlace}
    (h : DataW.Trod enc Tryz.prog w base spare held 22 (.slice A len cap) d p) : ∃ l : List OpJ, l.length = len ∧ OpsAt w w.heap.size A l := by
  obtain ⟨fuel, hf⟩ := h
  have hlen := slice_len Tryz.underlying22 hf
  have hs := slice_structs Tryz.underlying22 Tryz.underlying41 (by kernel_rfl) (by kernel_rfl) hf
  obtain ⟨l, hl, hp⟩ := list_of (p := fun i (o : OpJ) => (∃ g off, A = some ⟨g, off, none⟩ ∧ g < w.heap.size ∧ ∀ (j : Nat) (v : Value), o.cells[j]? = some v → w.cell? ⟨g, off + i * 5 + j, none⟩ = some v) ∧ (StrsAt w w.heap.size o.la o.list ∧ o.list.length ≤ 9223372036854775807) ∧ o.at_ ≤ 9223372036854775807) len (fun i hi => by
    obtain ⟨a, n, vs, hA, hvl, hc, hsp, hfl⟩ := hs i hi
    obtain ⟨v0, y0, e0, t0⟩ := hfl 0 _ rfl
    obtain ⟨v1, y1, e1, t1⟩ := hfl 1 _ rfl
    obtain ⟨v2, y2, e2, t2⟩ := hfl 2 _ rfl
    obtain ⟨v3, y3, e3, t3⟩ := hfl 3 _ rfl
    obtain ⟨v4, y4, e4, t4⟩ := hfl 4 _ rfl
    obtain ⟨k0, h0, _, _⟩ := DataW.trod_int Tryz.underlying3 t0
    obtain ⟨lA, ln, lc, rfl⟩ := slice_form t1
    obtain ⟨k1, h1, hst, hln⟩ := strs_of t1
    subst h1
    obtain ⟨k2, h2, _, w2⟩ := DataW.trod_int Tryz.underlying3 t2
    obtain ⟨k3, h3, _, _⟩ := DataW.trod_int Tryz.underlying3 t3
    obtain ⟨k4, h4, _, _⟩ := DataW.trod_int Tryz.underlying3 t4
    simp only [List.cons.injEq, and_true] at h0 h2 h3 h4
    subst h0 h2 h3 h4
    have hvs : vs = [.int .i64 k0, .slice lA k1.length lc, .int .i64 k2, .int .i64 k3, .int .i64 k4] := by
      match vs, hvl, e0, e1, e2, e3, e4 with
      | [u0, u1, u2, u3, u4], _, e0, e1, e2, e3, e4 =>
        simp at e0 e1 e2 e3 e4
        rw [e0, e1, e2, e3, e4]
    subst hvs
    obtain ⟨g, off, spot⟩ := a
    have : spot = none := hsp (by decide)
    subst this
    have hg := (hc 0 _ rfl).2
    exact ⟨⟨k0, lA, lc, k1, k2, k3, k4⟩, ⟨g, off, hA, hg, fun j v hv => (hc j v hv).1⟩, ⟨hst, hln⟩, (i64_bd w2).2⟩)
  refine ⟨l, hl, fun i a hi => (hp i a hi).1, fun a ha => ?_, fun a ha => ?_, by omega⟩
  · obtain ⟨i, hi⟩ := List.getElem?_of_mem ha
    exact (hp i a hi).2.1
  · obtain ⟨i, hi⟩ := List.getElem?_of_mem ha
    exact (hp i a hi).2.2

open Go.RowKit Go.Shelf

set_option maxRecDepth 100000 in
set_option maxHeartbeats 4000000 in
theorem append_long {w0 w : World} {a j : Nat} {d : Dk} {x : Jn} {K : Foot} (h : Ses w0 w a d j x K) (hf : x.broken = false) (A : Option Addr) (c : Nat) (rs : List (List UInt8)) (hs : StrsIn w K A rs) (hrl : rs.length ≤ 1000)
    (hlg : rs.any (fun r => decide (20000 < r.length)) = true) :
    Calls Tryz.prog 25 #[.pointer (some ⟨j, 0, none⟩), .slice A rs.length c] w fun e w' => e = .returned (.int .i64 2) ∧ Below w.heap.size w w' := by
  have hlt := h.live.lt
  obtain ⟨J, h1, hJ, h3⟩ := h
  obtain ⟨n, cnt, xrs, br⟩ := x
  simp only at hf
  subst hf
  obtain ⟨AR, cR, hb, hoR, hj, hrJ⟩ := hJ
  simp only at *
  have hmf : ∀ (fn : Fn) (first cap : Array Value) (w : World), (Instr.makeFunc fn first cap).run Tryz.prog w = .ok (.func fn first cap) w := fun _ _ _ _ => rfl
  obtain ⟨x0, x1, x2⟩ := hb.all
  have hbel2 : ∀ v : Value, Below w.heap.size w ((w.alloc (.cells #[.pointer (some ⟨j, 0, none⟩)] 29)).alloc (.cells #[v] 31)) := fun v => ((Below.refl _ w).alloc (Nat.le_refl _) _).alloc (by simp) _
  have hc := contains_any ((w.alloc (.cells #[.pointer (some ⟨j, 0, none⟩)] 29)).alloc (.cells #[.int .i64 0] 31)) K A c rs (hs.keep (Keep.of_below (hbel2 _) hlt)) (by omega)
  rw [hlg] at hc
  have HC := Lib.hid hc
  have HB2 := Lib.hid hbel2
  clear hc hbel2 hlg hs h1 h3 hoR hrJ hlt
  go_enter_defers Tryz.func25, Tryz.ntmps25
  go_wp2_with fail
  refine HC.out.mono ?_
  rintro e w2 ⟨rfl, hw2⟩
  have hb2 : Below w.heap.size w w2 := by rw [hw2]; exact HB2.out _
  have k4 : Blk w2 (w.heap.size + 1) 31 #[.int .i64 0] := by rw [hw2]; exact Blk.new1 w _ _ _
  clear hw2 HC HB2
  obtain ⟨c4, f4, l4⟩ := k4.all
  go_wp2
  have hpost := hb2.setCell (p := ⟨w.heap.size + 1, 0, none⟩) (by show _ ≤ w.heap.size + 1; omega) (.int .i64 2)
  simp [bodyPostD, Leaves, results, Tryz.results25, go_sem, c4]
  exact hpost
theorem total_short : ∀ (rs : List (List UInt8)), (∀ r ∈ rs, r.length ≤ 20000) → total rs ≤ 20000 * rs.length
  | [], _ => by simp [total]
  | r :: rs, h => by
    have h1 := total_short rs fun x hx => h x (List.mem_cons_of_mem _ hx)
    have h2 := h r List.mem_cons_self
    have e : total (r :: rs) = r.length + total rs := by simp [total]
    rw [e, List.length_cons]
    omega
/-- Append of at most 20 records, however long. -/
theorem Ses.append2 {w0 w : World} {a j : Nat} {d : Dk} {x : Jn} {K : Foot} (h : Ses w0 w a d j x K) (ht : Tbs w0) (hf : x.broken = false) (A : Option Addr) (c : Nat) (rs : List (List UInt8)) (hs : StrsIn w K A rs) (hn : x.n ≤ 1000) (hc : x.cnt ≤ 1000)
    (hrl : rs.length ≤ 20) (hxl : x.rs.length ≤ 1000000) (hq : d.q.length ≤ 1000) :
    Calls Tryz.prog 25 #[.pointer (some ⟨j, 0, none⟩), .slice A rs.length c] w fun e w' =>
      e = .returned (.int .i64 (appendS d x rs).2.2) ∧ Ses w0 w' a (appendS d x rs).1 j (appendS d x rs).2.1 K ∧ Keep K w w' := by
  cases hlg : rs.any (fun r => decide (20000 < r.length)) with
  | true =>
    have e : appendS d x rs = (d, x, 2) := by
      unfold appendS
      rw [if_neg (by simp [hf]), hlg, if_pos rfl]
    rw [e]
    refine (append_long h hf A c rs hs (by omega) hlg).mono ?_
    rintro e w' ⟨rfl, hb⟩
    exact ⟨rfl, h.same hb, Keep.of_below hb h.live.lt⟩
  | false =>
    have hsm : ∀ r ∈ rs, r.length ≤ 20000 := by simpa using hlg
    have := total_short rs hsm
    exact h.append ht A c rs hs hn hc (by omega) (by omega) hxl hq

set_option maxRecDepth 100000 in
set_option maxHeartbeats 4000000 in
theorem light_any (w : World) (s : Int) (A : Option Addr) (c : Nat) (l : List OpJ) (h : OpsAt w w.heap.size A l) :
    Calls Tryz.prog 5 #[.int .i64 s, .slice A l.length c] w fun e w' => ∃ b : Bool, e = .returned (.bool b) ∧ (b = true → s ≤ 40 ∧ l.length ≤ 16 ∧ ∀ o ∈ l, o.list.length ≤ 20) ∧ Below w.heap.size w w' := by
  by_cases hs40 : 40 < s
  · have d1 : decide (40 < s) = true := decide_eq_true hs40
    clear h hs40
    go_enter Tryz.func5, Tryz.ntmps5
    go_wp2
    go_ret
    exact ⟨false, rfl, fun h => (by cases h), Below.refl _ _⟩
  have d1 : decide (40 < s) = false := decide_eq_false hs40
  have hll := h.len
  by_cases h16 : 16 < l.length
  · have d2 : decide (16 < (l.length : Int)) = true := decide_eq_true (by omega)
    clear h hs40
    go_enter Tryz.func5, Tryz.ntmps5
    go_wp2
    go_ret
    exact ⟨false, rfl, fun h => (by cases h), Below.refl _ _⟩
  have d2 : decide (16 < (l.length : Int)) = false := decide_eq_false (by omega)
  have HO := Lib.hid h
  clear h
  go_enter Tryz.func5, Tryz.ntmps5
  go_wp2_with fail
  go_loopw [5, 6] (fun t i wr => ∃ (z : Int) (k : Nat), k ≤ l.length ∧ t = .int .i64 z ∧ i = .int .i64 (k : Int) ∧ Hid (∀ o ∈ l.take k, o.list.length ≤ 20) ∧ Below w.heap.size w wr) (fun _ i _ => l.length - (intOf i).toNat)
  case atStart => exact ⟨0, 0, Nat.zero_le _, rfl, rfl, Lib.hid (by simp), Below.refl _ _⟩
  case round =>
    obtain ⟨z, k, hk, rfl, rfl, HK, hb⟩ := hrel
    by_cases hlt : k < l.length
    · obtain ⟨o, ho⟩ : ∃ o, l[k]? = some o := ⟨_, List.getElem?_eq_getElem hlt⟩
      have hor := HO.out.below hb
      obtain ⟨g, off, rfl, hg, hcs⟩ := hor.cell k o ho
      have c1 : wr.cell? ⟨g, off + k * 5 + 1, none⟩ = some (.slice o.la o.list.length o.lc) := hcs 1 _ rfl
      have hst := hor.strs o (List.mem_of_getElem? ho)
      have hki : (k : Int) < (l.length : Int) := by omega
      have hk0 : (0 : Int) ≤ (k : Int) := by omega
      have hnx : o.list.length ≤ 20 → ∀ x ∈ l.take (k + 1), x.list.length ≤ 20 := fun hle x hx => by
        rw [List.take_add_one, ho] at hx
        rcases List.mem_append.1 hx with hx | hx
        · exact HK.out x hx
        · obtain rfl : x = o := by simpa using hx
          exact hle
      obtain ⟨kd, la, lc, ls, at_, wn, bn⟩ := o
      simp only at *
      have HS := Lib.hid hst.1
      have hsl := hst.2
      have HNX := Lib.hid hnx
      clear hcs hst hor ho hnx HK
      by_cases h20 : 20 < ls.length
      · have d3 : decide (20 < (ls.length : Int)) = true := decide_eq_true (by omega)
        clear h20
        go_wp2
        go_ret
        exact ⟨false, rfl, fun h => (by cases h), hb⟩
      · have d3 : decide (20 < (ls.length : Int)) = false := decide_eq_false (by omega)
        have HN := Lib.hid (HNX.out (by omega))
        clear HNX
        go_wp2_with fail
        go_loopw [5, 7] (fun t m wx => ∃ (y : Int) (n : Nat), n ≤ ls.length ∧ t = .int .i64 y ∧ m = .int .i64 (n : Int) ∧ wx = wr) (fun _ m _ => ls.length - (intOf m).toNat)
        case atStart => exact ⟨z, 0, Nat.zero_le _, rfl, rfl, rfl⟩
        case round =>
          obtain ⟨y, n, hn, rfl, rfl, rfl⟩ := hrel
          by_cases hlt2 : n < ls.length
          · obtain ⟨r, hr⟩ : ∃ r, ls[n]? = some r := ⟨_, List.getElem?_eq_getElem hlt2⟩
            obtain ⟨g2, off2, rfl, hg2, hc2⟩ := HS.out n r hr
            have hni : (n : Int) < (ls.length : Int) := by omega
            have hn0 : (0 : Int) ≤ (n : Int) := by omega
            have hsz := bs_size r
            obtain ⟨y2, hy2⟩ : ∃ y2, IntKind.i64.wrap (y + (r.length : Int)) = y2 := ⟨_, rfl⟩
            clear hr
            by_cases h6 : 6000 < y2
            · have d4 : decide (6000 < y2) = true := decide_eq_true h6
              go_wp2
              go_ret
              exact ⟨false, rfl, fun h => (by cases h), hb⟩
            · have d4 : decide (6000 < y2) = false := decide_eq_false h6
              go_wp2_with fail
              go_roundw
              case rel => exact ⟨y2, n + 1, by omega, rfl, by go_num, trivial⟩
              case measure => simp [intOf]; omega
          · obtain rfl : n = ls.length := by omega
            go_wp2_with fail
            go_roundw
            case rel => exact ⟨y, k + 1, by omega, rfl, by go_num, HN, hb⟩
            case measure => simp [intOf]; omega
    · obtain rfl : k = l.length := by omega
      have hall := HK.out
      rw [List.take_length] at hall
      have HALL := Lib.hid hall
      clear hall HK
      go_wp2
      go_ret
      exact ⟨true, rfl, fun _ => ⟨by omega, by omega, HALL.out⟩, hb⟩
end Go.Proofs.YtieicjjmkedgaaaGreatDoor

/- filled: a journal on a new disk with the records of some Appends. -/
namespace Go.Proofs.YtieicjjmkedgaaaGreatDoor
open Go.RowKit Go.Shelf

/-- A journal at rest, all of its writes done. -/
structure Rest (d : Dk) (x : Jn) (n : Nat) : Prop where
  on : JOn d x
  arm : d.arm = none
  q : d.q = []
  el : El d x.cnt
  n : d.n = n
theorem Rest.append {d : Dk} {x : Jn} {n : Nat} (h : Rest d x n) (rs : List (List UInt8)) :
    (appendS d x rs).2.2 = 0 ∧ Rest (appendS d x rs).1 (appendS d x rs).2.1 n ∧ (appendS d x rs).2.1.rs = x.rs ++ rs ∨ (appendS d x rs).2.2 ≠ 0 ∧ (appendS d x rs).1 = d ∧ (appendS d x rs).2.1 = x := by
  rcases append_on h.on rs with ⟨_, e⟩ | ⟨hs, ⟨_, e⟩ | ⟨hn, ⟨h0, e⟩ | ⟨h0, ⟨d', e, h1, h2, h3, h4, h5⟩ | ⟨d', _, h1, _⟩⟩⟩⟩
  · rw [e]; exact .inr ⟨by simp, rfl, rfl⟩
  · rw [e]; exact .inr ⟨by simp, rfl, rfl⟩
  · rw [e]
    subst h0
    exact .inl ⟨rfl, h, by simp⟩
  · rw [e]
    refine .inl ⟨rfl, ⟨h1, h3 h.arm, h4, ?_, h2.trans h.n⟩, rfl⟩
    exact El.append h.el h.on h.q hs hn h5
  · exact absurd h.arm h1
theorem Rest.new {n : Nat} (h : 3 ≤ n) (h2 : n ≤ 4000) : Rest (Dk.new n) ⟨n, 0, [], false⟩ n := ⟨(new_on h h2).1, rfl, rfl, El.new h, rfl⟩
theorem Rest.size {d : Dk} {x : Jn} {n : Nat} (h : Rest d x n) : x.n = n ∧ x.cnt + 2 ≤ n ∧ 3 ≤ n ∧ x.broken = false := by
  have h1 := h.on.good.le
  have h2 := h.on.good.n3
  have h3 := h.n
  exact ⟨h.on.n.trans h.n, by omega, by omega, h.on.fine⟩

section
variable {w0 w w' : World} {a j : Nat} {d d' : Dk} {x : Jn} {K H : Foot}
theorem Live.base (h : Live w0 w a d K) : Live w0 w a d (fun i => i < w0.heap.size ∨ K i) := by
  obtain ⟨F, h1, h2, h3⟩ := h.disk
  refine ⟨h.below, ⟨F, h1, h2, fun i hi hk => ?_⟩, fun i hi => ?_⟩
  · rcases hk with hk | hk
    · have := h2 i hi; omega
    · exact h3 i hi hk
  · rcases hi with hi | hi
    · have := h.below.size; omega
    · exact h.lt i hi
theorem Ses.base (h : Ses w0 w a d j x K) : Ses w0 w a d j x (fun i => i < w0.heap.size ∨ K i) := by
  obtain ⟨J, h1, h2, h3⟩ := h
  refine ⟨J, h1.base.less fun i hi => ?_, h2, fun i hi => ⟨(h3 i hi).1, fun hk => ?_⟩⟩
  · rcases hi with (hi | hi) | hi
    · exact .inl hi
    · exact .inr (.inl hi)
    · exact .inr (.inr hi)
  · rcases hk with hk | hk
    · have := (h3 i hi).1; omega
    · exact (h3 i hi).2 hk
theorem Ses.only (h : Ses w0 w a d j x K) (hO : Only H w w') (hH : ∀ i, H i → K i ∧ w0.heap.size ≤ i) : Ses w0 w' a d j x K := by
  obtain ⟨J, h1, h2, h3⟩ := h
  have hk : Keep J w w' := ⟨hO.size, fun i hi => hO.block i (h1.lt i (.inr hi)) (fun hh => (h3 i hi).2 (hH i hh).1)⟩
  exact ⟨J, h1.only hO (fun i hi => ⟨.inl (hH i hi).1, (hH i hi).2⟩), h2.keep hk (fun i hi => hi), h3⟩
end
theorem Ses.grow {w0 w w' : World} {a j : Nat} {d : Dk} {x : Jn} {K : Foot} {row : Option Nat} (h : Ses w0 w a d j x K) (hg : w.grownBy w' row) (hr : ∀ i, row = some i → w0.heap.size ≤ i) (hK : ∀ i, row = some i → K i) :
    Ses w0 w' a d j x (fun i => K i ∨ (w.heap.size ≤ i ∧ i < w'.heap.size)) := by
  obtain ⟨J, h1, h2, h3⟩ := h
  have hO : Only (fun i => row = some i) w w' := Only.of_grown hg
  have h4 := h1.only hO (fun i hi => ⟨.inl (hK i hi), hr i hi⟩)
  have hk : Keep J w w' := ⟨hO.size, fun i hi => hO.block i (h1.lt i (.inr hi)) (fun hh => (h3 i hi).2 (hK i hh))⟩
  obtain ⟨F, f1, f2, f3⟩ := h1.disk
  have f4 := f1.only hO (fun i hi hh => f3 i hi (.inl (hK i hh)))
  refine ⟨J, ⟨h4.below, ⟨F, f4, f2, fun i hi hh => ?_⟩, fun i hi => ?_⟩, h2.keep hk (fun i hi => hi), fun i hi => ⟨(h3 i hi).1, fun hh => ?_⟩⟩
  · rcases hh with (hh | hh) | hh
    · exact f3 i hi (.inl hh)
    · have := f1.lt i hi; omega
    · exact f3 i hi (.inr hh)
  · rcases hi with (hh | hh) | hh
    · exact h4.lt i (.inl hh)
    · exact hh.2
    · exact h4.lt i (.inr hh)
  · rcases hh with hh | hh
    · exact (h3 i hi).2 hh
    · have := h1.lt i (.inr hi); omega
theorem StrsAt.toIn {w : World} {B : Nat} {A : Option Addr} {l : List (List UInt8)} {K : Foot} (h : StrsAt w B A l) (hK : ∀ i, i < B → K i) : StrsIn w K A l := fun i s hi => by
  obtain ⟨g, off, hA, hg, hc⟩ := h i s hi
  exact ⟨g, off, hA, hK g hg, hc⟩

set_option maxRecDepth 100000 in
theorem open_nil (w : World) : Calls Tryz.prog 8 #[.pointer none] w fun e w' => e = .returned (.tuple #[.pointer none, .slice none 0 0, .int .i64 1]) ∧ w = w' := by
  go_enter Tryz.func8, Tryz.ntmps8
  go_wp2
  go_ret3
  exact ⟨rfl, rfl⟩
end Go.Proofs.YtieicjjmkedgaaaGreatDoor

/- The reference's numerals, texts and pieces; long records. -/
namespace Go.Proofs.YtieicjjmkedgaaaGreatDoor
open Go.RowKit Go.Shelf

def decO (m : Nat) : List UInt8 := if m = 0 then [] else Lib.decDigits m
theorem decO_step (n : Nat) : decO (n / 10) ++ [c8 (n % 10)] = Lib.decDigits n := by
  unfold decO
  by_cases h : n < 10
  · rw [if_pos (by omega), dec_ten h, show n % 10 = n by omega]; rfl
  · rw [if_neg (by omega), dec_more h]
theorem decO_pos {n : Nat} (h : 0 < n) : decO n = Lib.decDigits n := if_neg (by omega)
theorem dec_len20 {n : Nat} (h : n < 18446744073709551616) : (Lib.decDigits n).length ≤ 20 := (dec_pad (w := 19) (n := n) (Nat.lt_of_lt_of_le h (by decide))).1
theorem digU_slice (d : Nat) (h : d < 10) (W : World) : (Instr.slice 9 (.string ⟨#[48, 49, 50, 51, 52, 53, 54, 55, 56, 57]⟩) (some (.int .u64 (d : Int))) (some (.int .u64 ((d : Int) + 1))) none).run Tryz.prog W = .ok (.string (bs [c8 d])) W := by
  have e : ((d : Int) + 1) = ((d + 1 : Nat) : Int) := rfl
  have hs : ((⟨#[48, 49, 50, 51, 52, 53, 54, 55, 56, 57]⟩ : ByteArray).size : Int) = 10 := rfl
  rw [run_slice_string (P := Tryz.prog) (w := W) 9 _ .u64 .u64 (d : Int) ((d : Int) + 1) (by kernel_rfl) (by omega) (by omega) (by rw [hs]; omega)]
  congr 2
  rw [Int.toNat_natCast, e, Int.toNat_natCast]
  match d, h with
  | 0, _ => rfl
  | 1, _ => rfl
  | 2, _ => rfl
  | 3, _ => rfl
  | 4, _ => rfl
  | 5, _ => rfl
  | 6, _ => rfl
  | 7, _ => rfl
  | 8, _ => rfl
  | 9, _ => rfl
theorem bs_cons (b : UInt8) (t : List UInt8) : bs [b] ++ bs t = bs (b :: t) := by
  apply ByteArray.ext
  apply Array.ext'
  rw [ByteArray.data_append, Array.toList_append]
  rfl
theorem bs_appL (s t : List UInt8) : bs s ++ bs t = bs (s ++ t) := by
  apply ByteArray.ext
  apply Array.ext'
  rw [ByteArray.data_append, Array.toList_append]
  simp [bs]

set_option maxRecDepth 100000 in
set_option maxHeartbeats 4000000 in
theorem rdigits_any (w : World) (n : Nat) (hn : n < 18446744073709551616) : Calls Tryz.prog 99 #[.int .u64 (n : Int)] w fun e w' => e = .returned (.string (bs (Lib.decDigits n))) ∧ w = w' := by
  obtain ⟨D, hD⟩ : ∃ D, Lib.decDigits n = D := ⟨_, rfl⟩
  have hDl := dec_len20 hn
  have h0 := decO_step n
  rw [hD] at hDl h0 ⊢
  obtain ⟨d, hd⟩ : ∃ d, n % 10 = d := ⟨_, rfl⟩
  have hd10 : d < 10 := by omega
  obtain ⟨q, hq⟩ : ∃ q, n / 10 = q := ⟨_, rfl⟩
  have hmod2 : ((n : Nat) : Int).tmod 10 = (d : Int) := by rw [Int.tmod_eq_emod_of_nonneg (by omega)]; omega
  have hmod : ((n : Nat) : Int) % 10 = (d : Int) := by omega
  have hdiv : ((n : Nat) : Int).tdiv 10 = (q : Int) := by rw [Int.tdiv_eq_ediv_of_nonneg (by omega)]; omega
  have hdiv2 : ((n : Nat) : Int) / 10 = (q : Int) := by omega
  have sl := digU_slice d hd10
  rw [hd, hq] at h0
  have H0 := Lib.hid h0
  have hqn : q ≤ n := by omega
  clear hD h0 hd hq
  go_enter Tryz.func99, Tryz.ntmps99
  go_wp2_with fail
  go_loopw [0, 3] (fun v s wr => wr = w ∧ ∃ (m : Nat) (t : List UInt8), v = .int .u64 (m : Int) ∧ s = .string (bs t) ∧ m ≤ n ∧ Hid (decO m ++ t = D)) (fun v _ _ => (intOf v).toNat)
  case atStart => exact ⟨rfl, q, [c8 d], rfl, rfl, hqn, H0⟩
  case round =>
    clear H0 sl hmod hmod2 hdiv hdiv2 hqn
    obtain ⟨rfl, m, t, rfl, rfl, hmn, HK⟩ := hrel
    by_cases hlt : 0 < m
    · obtain ⟨d, hd⟩ : ∃ d, m % 10 = d := ⟨_, rfl⟩
      have hd10 : d < 10 := by omega
      obtain ⟨q, hq⟩ : ∃ q, m / 10 = q := ⟨_, rfl⟩
      have hmod : ((m : Nat) : Int) % 10 = (d : Int) := by omega
      have hmod2 : ((m : Nat) : Int).tmod 10 = (d : Int) := by rw [Int.tmod_eq_emod_of_nonneg (by omega)]; exact hmod
      have hdiv : ((m : Nat) : Int).tdiv 10 = (q : Int) := by rw [Int.tdiv_eq_ediv_of_nonneg (by omega)]; omega
      have hdiv2 : ((m : Nat) : Int) / 10 = (q : Int) := by omega
      have sl := digU_slice d hd10
      have hnx : decO q ++ c8 d :: t = D := by
        have h1 := HK.out
        rw [decO_pos hlt, ← decO_step m, hd, hq, List.append_assoc] at h1
        exact h1
      have htl : t.length ≤ 20 := by
        have h1 := congrArg List.length HK.out
        rw [List.length_append] at h1
        omega
      have hsum : ∀ W : World, (Op.stringOp .add (bs [c8 d]) (bs t)).run Tryz.prog W = .ok (.string (bs (c8 d :: t))) W := fun W => by
        have := run_string_add_sum (P := Tryz.prog) (w := W) (bs [c8 d]) (bs t) (by rw [bs_size, bs_size]; simp only [List.length_singleton]; omega)
        rw [bs_cons] at this
        exact this
      have hqm : q < m := by omega
      have HN := Lib.hid hnx
      clear hnx hd hq HK htl
      go_wp2_with fail
      go_roundw
      case rel => exact ⟨by first | trivial | rfl, q, c8 d :: t, by first | rfl | go_num, rfl, by omega, HN⟩
      case measure => simp [intOf]; omega
    · obtain rfl : m = 0 := by omega
      have hfin := HK.out
      rw [show decO 0 = [] from rfl, List.nil_append] at hfin
      subst hfin
      go_wp2
      go_ret
      exact ⟨rfl, rfl⟩
set_option maxRecDepth 100000 in
set_option maxHeartbeats 4000000 in
theorem rdecimal_any (w : World) (n : Nat) (hn : n ≤ 9223372036854775807) : Calls Tryz.prog 77 #[.int .i64 (n : Int)] w fun e w' => e = .returned (.string (bs (Lib.decDigits n))) ∧ w = w' := by
  have P := Lib.hid (rdigits_any w n (by omega))
  have h0 : ¬ ((n : Int) < 0) := by omega
  go_enter Tryz.func77, Tryz.ntmps77
  go_wp2_with fail
  refine P.out.mono ?_
  rintro e w1 ⟨rfl, rfl⟩
  go_wp2
  go_ret
  exact ⟨rfl, rfl⟩

set_option maxRecDepth 100000 in
set_option maxHeartbeats 4000000 in
theorem rlong_any (w : World) (B : Nat) (A : Option Addr) (c : Nat) (l : List (List UInt8)) (h : StrsAt w B A l) (hl : l.length ≤ 1000000) :
    Calls Tryz.prog 61 #[.slice A l.length c] w fun e w' => e = .returned (.bool (l.any fun r => decide (20000 < r.length))) ∧ w = w' := by
  obtain ⟨R, hR⟩ : ∃ r, (l.any fun r => decide (20000 < r.length)) = r := ⟨_, rfl⟩
  rw [hR]
  have HR := Lib.hid hR
  have HS := Lib.hid h
  clear hR h
  go_enter Tryz.func61, Tryz.ntmps61
  go_wp2_with fail
  go_loopw [3] (fun v wr => wr = w ∧ ∃ k : Nat, k ≤ l.length ∧ v = .int .i64 (k : Int) ∧ Hid ((l.take k).any (fun r => decide (20000 < r.length)) = false)) (fun v _ => l.length - (intOf v).toNat)
  case atStart => exact ⟨rfl, 0, Nat.zero_le _, rfl, Lib.hid rfl⟩
  case round =>
    obtain ⟨rfl, k, hk, rfl, HK⟩ := hrel
    by_cases hlt : k < l.length
    · obtain ⟨r, hr⟩ : ∃ r, l[k]? = some r := ⟨_, List.getElem?_eq_getElem hlt⟩
      obtain ⟨g, off, rfl, hg, hc⟩ := HS.out k r hr
      have hki : (k : Int) < (l.length : Int) := by omega
      have hk0 : (0 : Int) ≤ (k : Int) := by omega
      have hsz := bs_size r
      by_cases hb : 20000 < r.length
      · have hb1 : decide (20000 < (r.length : Int)) = true := decide_eq_true (by omega)
        have hfin : (l.any fun r => decide (20000 < r.length)) = true := List.any_eq_true.2 ⟨r, List.mem_of_getElem? hr, decide_eq_true hb⟩
        obtain rfl : R = true := HR.out.symm.trans hfin
        clear hr hb hfin HR HK
        go_wp2
        go_ret
        exact ⟨rfl, rfl⟩
      · have hb1 : decide (20000 < (r.length : Int)) = false := decide_eq_false (by omega)
        have hnx : (l.take (k + 1)).any (fun r => decide (20000 < r.length)) = false := by
          rw [List.take_add_one, hr, List.any_append, HK.out]
          simp
          omega
        have HN := Lib.hid hnx
        clear hr hb hnx HK
        go_wp2_with fail
        go_roundw
        case rel => exact ⟨by first | trivial | rfl, k + 1, by omega, by go_num, HN⟩
        case measure => simp [intOf]; omega
    · obtain rfl : k = l.length := by omega
      have hfin := HK.out
      rw [List.take_length] at hfin
      obtain rfl : R = false := HR.out.symm.trans hfin
      clear HR HK hfin
      go_wp2
      go_ret
      exact ⟨rfl, rfl⟩

set_option maxRecDepth 100000 in
set_option maxHeartbeats 4000000 in
theorem rpieces_any (w : World) (t : List UInt8) (ht : t.length ≤ 1000000) : Calls Tryz.prog 62 #[.string (bs t)] w fun e w' => ∃ v, e = .returned v ∧ OwnStrs w' w.heap.size v (piecesL t) ∧ Below w.heap.size w w' := by
  obtain ⟨i0, hi0, hz0, hz1, hz2⟩ := info_parts Tryz.infoStr
  obtain ⟨P, hP⟩ : ∃ P, piecesL t = P := ⟨_, rfl⟩
  rw [hP]
  have hPl : P.length ≤ t.length := by rw [← hP]; exact pieces_le t
  have HP := Lib.hid hP
  clear hP
  have hw0 : OwnStrs w w.heap.size (.slice none 0 0) [] := OwnStrs.nil _ _
  have hsz := bs_size t
  go_enter Tryz.func62, Tryz.ntmps62
  go_wp2_with fail
  go_loopw [3, 4] (fun v f wr => ∃ (a : Nat) (ps : List (List UInt8)) (A : Option Addr) (c : Nat), a ≤ t.length + 46 ∧ f = .int .i64 (a : Int) ∧ v = .slice A ps.length c ∧ OwnStrs wr w.heap.size (.slice A ps.length c) ps ∧ Hid (ps ++ piecesL (t.drop a) = P) ∧ Below w.heap.size w wr) (fun _ f _ => t.length + 46 - (intOf f).toNat)
  case atStart => exact ⟨0, [], none, 0, Nat.zero_le _, rfl, rfl, hw0, Lib.hid (by rw [HP.out.symm]; rfl), Below.refl _ _⟩
  case round =>
    clear hw0 HP
    obtain ⟨a, ps, A, c, ha, rfl, rfl, own, HM, hb⟩ := hrel
    by_cases h0 : a < t.length
    · have hne : t.drop a ≠ [] := by
        intro e
        have := congrArg List.length e
        rw [List.length_drop] at this
        simp at this
        omega
      have hnx : (ps ++ [(t.drop a).take 46]) ++ piecesL (t.drop (a + 46)) = P := by
        rw [← HM.out, pieces_cons hne, List.append_assoc, List.drop_drop]; rfl
      have hpsl : ps.length + 1 ≤ P.length := by rw [← hnx]; simp
      obtain ⟨k, hk⟩ : ∃ k, min (a + 46) t.length = k := ⟨_, rfl⟩
      have hmin := run_min2 (P := Tryz.prog) ((a : Int) + 46) (t.length : Int) (k : Int) (by omega)
      have hak : a ≤ k := by omega
      have hkm : k ≤ t.length := by omega
      have s1 := sl_mid t a k hak hkm
      have htk : (t.drop a).take 46 = (t.drop a).take (k - a) := by
        by_cases h46 : a + 46 ≤ t.length
        · rw [show k - a = 46 by omega]
        · rw [List.take_of_length_le (by rw [List.length_drop]; omega), List.take_of_length_le (by rw [List.length_drop]; omega)]
      rw [htk] at hnx
      obtain ⟨pc, hpc⟩ : ∃ pc, (t.drop a).take (k - a) = pc := ⟨_, rfl⟩
      rw [hpc] at hnx s1
      have HNX := Lib.hid hnx
      have HPL := Lib.hid hpsl
      have hal : (a : Int) < (t.length : Int) := by omega
      have kn := Blk.new wr 9 #[sv pc]
      have hb2 := hb.alloc hb.size (.cells #[sv pc] 9)
      have own2 : OwnStrs (wr.alloc (.cells #[sv pc] 9)) w.heap.size (.slice A ps.length c) ps := World.ownsRow.alloc own _
      clear hnx hk htk hne hpsl hpc HM
      go_wp2_with (at_builtin; refine wpList_append_lies _ rfl _ _ 30 rfl w.heap.size 9 i0 _ 1 16 Tryz.underlying30 hi0 hz0 hz1 hz2 rfl (by omega) (.slice A ps.length c) ps.length (ps.map sv) rfl own2 ⟨wr.heap.size, 0, none⟩ 1 1 [sv pc] rfl rfl (World.news_of_block kn) (sv_one [pc]) (by omega) (by have := HPL.out; unfold maxLen; omega) (by have := HPL.out; omega) (by have := hb.size; simp; omega) (wr.heap.size + 1) (by simp) ?_; intro gz cz Y own9 gr9 l9 z9)
      have hb3 := hb2.grown gr9 hb2.size (fun x hx => (World.ownsRow.lt own2 x hx).1)
      have hl1 : (ps ++ [pc]).length = ps.length + 1 := by simp
      have own3 : OwnStrs Y w.heap.size (.slice (some ⟨gz, 0, none⟩) (ps.length + 1) cz) (ps ++ [pc]) := by
        unfold OwnStrs
        rw [hl1, List.map_append]
        exact own9
      go_roundw
      case rel => exact ⟨a + 46, ps ++ [pc], some ⟨gz, 0, none⟩, cz, by omega, by go_num, by rw [hl1], by rw [hl1]; exact own3, HNX, hb3⟩
      case measure => simp [intOf]; omega
    · have hfin : ps = P := by have := HM.out; rw [List.drop_of_length_le (by omega), pieces_nil, List.append_nil] at this; exact this
      subst hfin
      have hal : ¬ (a : Int) < (t.length : Int) := by omega
      clear HM
      go_wp2
      go_ret
      exact ⟨_, rfl, own, hb⟩
end Go.Proofs.YtieicjjmkedgaaaGreatDoor

/- The reference's text of records; light, where texts are no longer than memory. -/
namespace Go.Proofs.YtieicjjmkedgaaaGreatDoor
open Go.RowKit Go.Shelf

theorem same_yes (w : World) (A B : Option Addr) (c c' : Nat) (l : List (List UInt8)) (h1 : StrsAt w w.heap.size A l) (h2 : StrsAt w w.heap.size B l) (hl : l.length ≤ 1000000) :
    Calls Tryz.prog 10 #[.slice A l.length c, .slice B l.length c'] w fun e w' => e = .returned (.bool true) ∧ Below w.heap.size w w' := by
  have h := same_any w A B c c' l l h1 h2 hl
  rwa [show decide (l = l) = true from decide_eq_true rfl] at h
theorem strCells_bs (s : List UInt8) : Lib.strCells (bs s) = bc s := by simp [Lib.strCells, bs, bc]
theorem own_string {B : Nat} {v : Value} {s : List UInt8} {W0 w : World} (h : Lib.OwnBuf B 5 v s.length (bc s) W0 w) : (convert 49 9 v).run Tryz.prog w = .ok (.string (bs s)) w := by
  obtain ⟨h1, _, _⟩ := h
  have hc := fun g (hg : v.ownBlock = some g) => World.ownsRowF.cells h1 hg
  obtain ⟨_, ⟨rfl, h0⟩ | ⟨g, cap, cur, fz, rfl, _⟩⟩ := h1
  · obtain rfl : s = [] := List.length_eq_zero_iff.1 h0
    exact run_convert_bytes_nil w 49 5 Tryz.underlying49 Tryz.underlying5 0 0 9 Tryz.underlying9
  · exact run_convert_bytes_back w 49 9 5 ⟨g, 0, none⟩ cap s Tryz.underlying49 Tryz.underlying5 Tryz.underlying9 fun j hj => hc g rfl j _ (by rw [bc_at, List.getElem?_eq_getElem hj]; rfl)

set_option maxRecDepth 100000 in
set_option maxHeartbeats 8000000 in
theorem rjoined_any (w : World) (B : Nat) (A : Option Addr) (l : List (List UInt8)) (c : Nat) (h : StrsAt w B A l) (hB : B ≤ w.heap.size) (hn : l.length ≤ 1000000) (htot : total l ≤ 100000000) :
    Calls Tryz.prog 84 #[.slice A l.length c] w fun e w' => e = .returned (.string (bs (textR l))) ∧ Below w.heap.size w w' := by
  obtain ⟨i0, hi, hz0, hz1, hz2⟩ := info_parts Tryz.infoByte
  have HS := Lib.hid (h.wide hB)
  have htl := textR_len l (by omega)
  clear h
  go_enter Tryz.func84, Tryz.ntmps84
  go_wp2_with fail
  go_loopw [3, 4] (fun n i wr => wr = w ∧ ∃ k s : Nat, k ≤ l.length ∧ n = .int .i64 (s : Int) ∧ i = .int .i64 (k : Int) ∧ Hid (s = total (l.take k) + 21 * k)) (fun _ i _ => l.length - (intOf i).toNat)
  case atStart => exact ⟨rfl, 0, 0, Nat.zero_le _, rfl, rfl, Lib.hid rfl⟩
  case round =>
    obtain ⟨rfl, k, s, hk, rfl, rfl, HK⟩ := hrel
    have hst := total_take l k
    have hsk := HK.out
    by_cases hlt : k < l.length
    · obtain ⟨r, hr⟩ : ∃ r, l[k]? = some r := ⟨_, List.getElem?_eq_getElem hlt⟩
      obtain ⟨g, off, rfl, hg, hc⟩ := HS.out k r hr
      have hki : (k : Int) < (l.length : Int) := by omega
      have hk0 : (0 : Int) ≤ (k : Int) := by omega
      have hsz := bs_size r
      have hrt := total_le (List.mem_of_getElem? hr)
      have hnx : s + (r.length + 21) = total (l.take (k + 1)) + 21 * (k + 1) := by
        rw [List.take_add_one, hr, total_app, hsk]
        simp [total]
        omega
      have HN := Lib.hid hnx
      have hs1 : s ≤ 121000000 := by omega
      clear hr hnx hsk hst HK
      go_wp2_with fail
      go_roundw
      case rel => exact ⟨by first | trivial | rfl, k + 1, s + (r.length + 21), by omega, by go_num, by go_num, HN⟩
      case measure => simp [intOf]; omega
    · obtain rfl : k = l.length := by omega
      obtain ⟨we, rfl⟩ : ∃ q, q = wr := ⟨wr, rfl⟩
      rw [List.take_length] at hsk
      have hs1 : s ≤ 121000000 := by omega
      clear HK hst hsk
      go_wp2_with (at_make; refine wpList_make_own _ rfl _ _ 49 rfl we.heap.size 5 i0 (.int .u8 0) 1 Tryz.underlying49 hi hz0 hz1 .i64 .i64 (s : Int) s rfl rfl rfl (by rw [hz2]; omega) (by unfold maxLen; omega) (Nat.le_refl _) ?_; intro w1 own1 gr1)
      have OB := Lib.hid (show Lib.OwnBuf we.heap.size 5 (.slice (some ⟨we.heap.size, 0, none⟩) 0 s) 0 [] we w1 from ⟨World.ownsRowF_of own1, (Below.refl _ we).grown gr1 (Nat.le_refl _) (fun _ h => by cases h), gr1.size⟩)
      clear own1 gr1
      go_wp2_with fail
      go_loopw [5, 6] (fun v i wx => ∃ k : Nat, k ≤ l.length ∧ i = .int .i64 (k : Int) ∧ Hid (Lib.OwnBuf we.heap.size 5 v (textR (l.take k)).length (bc (textR (l.take k))) we wx)) (fun _ i _ => l.length - (intOf i).toNat)
      case atStart => exact ⟨0, Nat.zero_le _, rfl, OB⟩
      case round =>
        clear OB
        obtain ⟨k, hk, rfl, HB⟩ := hrel
        by_cases hlt : k < l.length
        · obtain ⟨r, hr⟩ : ∃ r, l[k]? = some r := ⟨_, List.getElem?_eq_getElem hlt⟩
          obtain ⟨g, off, rfl, hg, hc⟩ := HS.out k r hr
          have HC := Lib.hid (fun W (hW : Below we.heap.size we W) => (hW.cell (p := ⟨g, off + k, none⟩) hg).trans hc)
          have hki : (k : Int) < (l.length : Int) := by omega
          have hk0 : (0 : Int) ≤ (k : Int) := by omega
          have hsz := bs_size r
          have hrt := total_le (List.mem_of_getElem? hr)
          have P := Lib.hid (fun W => rdecimal_any W r.length (by omega))
          have hdl := dec_short (n := r.length) (by omega)
          have htk : textR (l.take (k + 1)) = textR (l.take k) ++ Lib.decDigits r.length ++ [58] ++ r := by
            rw [textR_take l hr]
            unfold recL
            rw [itoa_nat]
            simp
          have hlen : (textR (l.take (k + 1))).length ≤ 121000000 := by
            have h1 := textR_len (l.take (k + 1)) (by have := total_take l (k + 1); omega)
            have h2 := total_take l (k + 1)
            have h3 : (l.take (k + 1)).length ≤ l.length := by rw [List.length_take]; omega
            omega
          have hlen2 : (textR (l.take k)).length + (Lib.decDigits r.length).length + 1 + r.length ≤ 121000000 := by
            rw [htk] at hlen
            simp only [List.length_append, List.length_singleton] at hlen
            omega
          have HTK := Lib.hid htk
          have hcx := HC.out _ HB.out.2.1
          obtain ⟨T, hT⟩ : ∃ T, textR (l.take k) = T := ⟨_, rfl⟩
          obtain ⟨D, hD⟩ : ∃ D, Lib.decDigits r.length = D := ⟨_, rfl⟩
          rw [hT] at HB HTK hlen2
          rw [hD] at P HTK hlen2 hdl
          clear hr hc htk hlen hT hD
          go_wp2_with fail
          refine (P.out _).mono ?_
          rintro e w2 ⟨rfl, rfl⟩
          have OB := HB.out
          clear HB
          have e58 : bc (T ++ D) ++ [Value.int .u8 58] = bc (T ++ D ++ [58]) := by rw [bc_app (T ++ D) [58]]; rfl
          go_wp2_with (first
            | (at_builtin; refine Lib.wpList_append_text rfl _ _ 49 9 rfl we.heap.size 5 i0 Tryz.underlying49 Tryz.underlying9 hi hz0 hz1 hz2 _ T.length (bc T) rfl we OB (bs D) rfl (by rw [bs_size]; omega) ?_; intro v3 w3 OB3; rw [bs_size, strCells_bs, ← bc_app] at OB3; clear OB)
            | (at_builtin; refine Lib.wpList_append_byte rfl _ _ 49 rfl we.heap.size 5 i0 Tryz.underlying49 hi hz0 hz1 hz2 v3 (T.length + D.length) (bc (T ++ D)) rfl we w3 58 OB3 rfl (by omega) ?_; intro v4 w4 OB4; rw [e58] at OB4; have hc4 := HC.out _ OB4.2.1; clear OB3)
            | (at_builtin; refine Lib.wpList_append_text rfl _ _ 49 9 rfl we.heap.size 5 i0 Tryz.underlying49 Tryz.underlying9 hi hz0 hz1 hz2 v4 (T.length + D.length + 1) (bc (T ++ D ++ [58])) rfl we OB4 (bs r) rfl (by rw [bs_size]; omega) ?_; intro v5' w5 OB5; rw [bs_size, strCells_bs, ← bc_app] at OB5; clear OB4))
          have OB6 : Lib.OwnBuf we.heap.size 5 v5' (textR (l.take (k + 1))).length (bc (textR (l.take (k + 1)))) we w5 := by
            rw [HTK.out]
            have : (T ++ D ++ [58] ++ r).length = T.length + D.length + 1 + r.length := by simp only [List.length_append, List.length_singleton]
            rw [this]
            exact OB5
          have HB6 := Lib.hid OB6
          clear OB5 OB6
          go_roundw
          case rel => exact ⟨k + 1, by omega, by go_num, HB6⟩
          case measure => simp [intOf]; omega
        · obtain rfl : k = l.length := by omega
          have OB := HB.out
          rw [List.take_length] at OB
          have hcv := own_string OB
          have hbel := OB.2.1
          clear OB HB
          go_wp2
          go_ret
          exact ⟨rfl, hbel⟩
set_option maxRecDepth 100000 in
set_option maxHeartbeats 4000000 in
theorem rtext_any (w : World) (B : Nat) (A : Option Addr) (l : List (List UInt8)) (c : Nat) (h : StrsAt w B A l) (hB : B ≤ w.heap.size) (hn : l.length ≤ 1000000) (htot : total l ≤ 100000000) :
    Calls Tryz.prog 63 #[.slice A l.length c] w fun e w' => e = .returned (.string (bs (textR l))) ∧ Below w.heap.size w w' := by
  have P := Lib.hid (rjoined_any w B A l c h hB hn htot)
  clear h
  go_enter Tryz.func63, Tryz.ntmps63
  go_wp2_with fail
  refine P.out.mono ?_
  rintro e w1 ⟨rfl, hb⟩
  clear P
  go_wp2
  go_ret
  exact ⟨rfl, hb⟩
set_option maxRecDepth 100000 in
set_option maxHeartbeats 4000000 in
theorem light2_any (w : World) (s : Int) (A : Option Addr) (c : Nat) (l : List OpJ) (h : OpsAt w w.heap.size A l) (hsm : ∀ o ∈ l, ∀ r ∈ o.list, r.length ≤ 140737488355328) :
    Calls Tryz.prog 5 #[.int .i64 s, .slice A l.length c] w fun e w' => ∃ b : Bool, e = .returned (.bool b) ∧ (b = true → s ≤ 40 ∧ l.length ≤ 16 ∧ ∀ o ∈ l, o.list.length ≤ 20 ∧ total o.list ≤ 6000) ∧ Below w.heap.size w w' := by
  by_cases hs40 : 40 < s
  · have d1 : decide (40 < s) = true := decide_eq_true hs40
    clear h hs40 hsm
    go_enter Tryz.func5, Tryz.ntmps5
    go_wp2
    go_ret
    exact ⟨false, rfl, fun h => (by cases h), Below.refl _ _⟩
  have d1 : decide (40 < s) = false := decide_eq_false hs40
  have hll := h.len
  by_cases h16 : 16 < l.length
  · have d2 : decide (16 < (l.length : Int)) = true := decide_eq_true (by omega)
    clear h hs40 hsm
    go_enter Tryz.func5, Tryz.ntmps5
    go_wp2
    go_ret
    exact ⟨false, rfl, fun h => (by cases h), Below.refl _ _⟩
  have d2 : decide (16 < (l.length : Int)) = false := decide_eq_false (by omega)
  have HO := Lib.hid h
  have HSM := Lib.hid hsm
  clear h hsm
  go_enter Tryz.func5, Tryz.ntmps5
  go_wp2_with fail
  go_loopw [5, 6] (fun t i wr => ∃ (z : Nat) (k : Nat), k ≤ l.length ∧ z ≤ 6000 ∧ t = .int .i64 (z : Int) ∧ i = .int .i64 (k : Int) ∧ Hid (∀ o ∈ l.take k, o.list.length ≤ 20 ∧ total o.list ≤ 6000) ∧ Below w.heap.size w wr) (fun _ i _ => l.length - (intOf i).toNat)
  case atStart => exact ⟨0, 0, Nat.zero_le _, Nat.zero_le _, rfl, rfl, Lib.hid (by simp), Below.refl _ _⟩
  case round =>
    obtain ⟨z, k, hk, hz6, rfl, rfl, HK, hb⟩ := hrel
    by_cases hlt : k < l.length
    · obtain ⟨o, ho⟩ : ∃ o, l[k]? = some o := ⟨_, List.getElem?_eq_getElem hlt⟩
      have hor := HO.out.below hb
      obtain ⟨g, off, rfl, hg, hcs⟩ := hor.cell k o ho
      have c1 : wr.cell? ⟨g, off + k * 5 + 1, none⟩ = some (.slice o.la o.list.length o.lc) := hcs 1 _ rfl
      have hst := hor.strs o (List.mem_of_getElem? ho)
      have hki : (k : Int) < (l.length : Int) := by omega
      have hk0 : (0 : Int) ≤ (k : Int) := by omega
      have hsmo := HSM.out o (List.mem_of_getElem? ho)
      have hnx : o.list.length ≤ 20 ∧ total o.list ≤ 6000 → ∀ x ∈ l.take (k + 1), x.list.length ≤ 20 ∧ total x.list ≤ 6000 := fun hle x hx => by
        rw [List.take_add_one, ho] at hx
        rcases List.mem_append.1 hx with hx | hx
        · exact HK.out x hx
        · obtain rfl : x = o := by simpa using hx
          exact hle
      obtain ⟨kd, la, lc, ls, at_, wn, bn⟩ := o
      simp only at *
      have HS := Lib.hid hst.1
      have hsl := hst.2
      have HNX := Lib.hid hnx
      clear hcs hst hor ho hnx HK
      by_cases h20 : 20 < ls.length
      · have d3 : decide (20 < (ls.length : Int)) = true := decide_eq_true (by omega)
        clear h20
        go_wp2
        go_ret
        exact ⟨false, rfl, fun h => (by cases h), hb⟩
      · have d3 : decide (20 < (ls.length : Int)) = false := decide_eq_false (by omega)
        have HSO := Lib.hid hsmo
        clear hsmo
        go_wp2_with fail
        go_loopw [5, 7] (fun t m wx => ∃ (y : Nat) (n : Nat), n ≤ ls.length ∧ y ≤ 6000 ∧ t = .int .i64 (y : Int) ∧ m = .int .i64 (n : Int) ∧ wx = wr ∧ Hid (total (ls.take n) ≤ y)) (fun _ m _ => ls.length - (intOf m).toNat)
        case atStart => exact ⟨z, 0, Nat.zero_le _, hz6, rfl, rfl, rfl, Lib.hid (Nat.zero_le _)⟩
        case round =>
          obtain ⟨y, n, hn, hy6, rfl, rfl, rfl, HY⟩ := hrel
          by_cases hlt2 : n < ls.length
          · obtain ⟨r, hr⟩ : ∃ r, ls[n]? = some r := ⟨_, List.getElem?_eq_getElem hlt2⟩
            obtain ⟨g2, off2, rfl, hg2, hc2⟩ := HS.out n r hr
            have hni : (n : Int) < (ls.length : Int) := by omega
            have hn0 : (0 : Int) ≤ (n : Int) := by omega
            have hsz := bs_size r
            have hrs := HSO.out r (List.mem_of_getElem? hr)
            have hny : total (ls.take (n + 1)) ≤ y + r.length := by
              rw [List.take_add_one, hr, total_app]
              have := HY.out
              simp [total] at this ⊢
              omega
            have HNY := Lib.hid hny
            clear hr hny HY
            by_cases h6 : 6000 < y + r.length
            · have d4 : decide (6000 < (y : Int) + (r.length : Int)) = true := decide_eq_true (by omega)
              go_wp2
              go_ret
              exact ⟨false, rfl, fun h => (by cases h), hb⟩
            · have d4 : decide (6000 < (y : Int) + (r.length : Int)) = false := decide_eq_false (by omega)
              go_wp2_with fail
              go_roundw
              case rel => exact ⟨y + r.length, n + 1, by omega, by omega, by go_num, by go_num, by first | trivial | rfl, HNY⟩
              case measure => simp [intOf]; omega
          · obtain rfl : n = ls.length := by omega
            have hty := HY.out
            rw [List.take_length] at hty
            have HN := Lib.hid (HNX.out ⟨by omega, by omega⟩)
            clear HY hty HNX
            go_wp2_with fail
            go_roundw
            case rel => exact ⟨y, k + 1, by omega, hy6, rfl, by go_num, HN, hb⟩
            case measure => simp [intOf]; omega
    · obtain rfl : k = l.length := by omega
      have hall := HK.out
      rw [List.take_length] at hall
      have HALL := Lib.hid hall
      clear hall HK
      go_wp2
      go_ret
      exact ⟨true, rfl, fun _ => ⟨by omega, by omega, HALL.out⟩, hb⟩
end Go.Proofs.YtieicjjmkedgaaaGreatDoor

/- The reference's sectors: digits, zeros, seal, head, number, count, sector, piece. -/
namespace Go.Proofs.YtieicjjmkedgaaaGreatDoor
open Go.RowKit Go.Shelf

theorem rsum_str (a b : List UInt8) (h : a.length + b.length ≤ 9223372036854775807) (W : World) : (Op.stringOp .add (bs a) (bs b)).run Tryz.prog W = .ok (.string (bs (a ++ b))) W := by
  have := run_string_add_sum (P := Tryz.prog) (w := W) (bs a) (bs b) (by rw [bs_size, bs_size]; omega)
  rw [bs_append] at this
  exact this
set_option maxRecDepth 100000 in
theorem rzeros_any (w : World) (n : Nat) (hn : n ≤ 1000000) : Calls Tryz.prog 80 #[.int .i64 (n : Int)] w fun e w' => e = .returned (.string (bs (List.replicate n 0))) ∧ Below w.heap.size w w' := by
  have mk := zeros_make n hn w
  have kn := Blk.new w 5 (List.replicate n (.int .u8 0)).toArray
  have hb := (Below.refl w.heap.size w).alloc (Nat.le_refl _) (.cells (List.replicate n (.int .u8 0)).toArray 5)
  have cv := zeros_text n _ _ kn
  clear kn
  generalize w.alloc (.cells (List.replicate n (.int .u8 0)).toArray 5) = w2 at *
  go_enter Tryz.func80, Tryz.ntmps80
  go_wp2
  go_ret
  exact ⟨rfl, hb⟩
theorem rZero_any (w : World) : Calls Tryz.prog 45 #[] w fun e w' => e = .returned (.string (bs zeroL)) ∧ Below w.heap.size w w' := by
  have P := Lib.hid (rzeros_any w 64 (by decide))
  go_enter Tryz.func45, Tryz.ntmps45
  go_wp2_with (go_at_call 80; refine P.out.mono ?_; rintro e w1 ⟨rfl, b1⟩)
  go_ret
  exact ⟨rfl, b1⟩
set_option maxRecDepth 100000 in
set_option maxHeartbeats 2000000 in
theorem rdig_any (w : World) (n k : Nat) (hk : k + 1 ≤ 10) (hn : n < 10 ^ (k + 1)) : Calls Tryz.prog 79 #[.int .i64 (n : Int), .int .i64 ((k + 1 : Nat) : Int)] w fun e w' => e = .returned (.string (bs (lastD (k + 1) n))) ∧ w = w' := by
  have h10 : 10 ^ (k + 1) ≤ 10 ^ 10 := Nat.pow_le_pow_right (by decide) hk
  have h10' : (10 : Nat) ^ 10 = 10000000000 := rfl
  have P := Lib.hid (rdecimal_any w n (by omega))
  obtain ⟨hl, he⟩ := dec_pad hn
  obtain ⟨D, hD⟩ : ∃ D, Lib.decDigits n = D := ⟨_, rfl⟩
  rw [hD] at hl he P
  have HE := Lib.hid he
  have HL := Lib.hid hl
  clear hD he h10 h10' hn
  go_enter Tryz.func79, Tryz.ntmps79
  go_wp2_with (go_at_call 77; refine P.out.mono ?_; rintro e w1 ⟨rfl, rfl⟩)
  go_loopw [5] (fun s wr => wr = w ∧ ∃ j : Nat, j ≤ k + 1 - D.length ∧ s = .string (bs (List.replicate j 48 ++ D))) (fun s _ => k + 1 - strSize s)
  case atStart => exact ⟨rfl, 0, Nat.zero_le _, rfl⟩
  case round =>
    obtain ⟨hwr, j, hj, rfl⟩ := hrel
    have hwr := hwr.symm
    subst hwr
    have hlen : (List.replicate j (48 : UInt8) ++ D).length = j + D.length := by rw [List.length_append, List.length_replicate]
    have hsz := bs_size (List.replicate j (48 : UInt8) ++ D)
    rw [hlen] at hsz
    have hlD := HL.out
    by_cases hlt : j + D.length < k + 1
    · have hsum := rsum_str [48] (List.replicate j (48 : UInt8) ++ D) (by rw [hlen]; simp; omega)
      have hnx : [48] ++ (List.replicate j (48 : UInt8) ++ D) = List.replicate (j + 1) 48 ++ D := by rw [List.replicate_succ]; rfl
      rw [hnx] at hsum
      replace hsum : ∀ W : World, (Op.stringOp .add ⟨#[48]⟩ (bs (List.replicate j (48 : UInt8) ++ D))).run Tryz.prog W = .ok (.string (bs (List.replicate (j + 1) 48 ++ D))) W := hsum
      have hlen2 : (bs (List.replicate (j + 1) (48 : UInt8) ++ D)).size = j + 1 + D.length := by rw [bs_size, List.length_append, List.length_replicate]
      have HL2 := Lib.hid hlen2
      have HSZ := Lib.hid hsz
      have hlt2 : ((j + D.length : Nat) : Int) < ((k + 1 : Nat) : Int) := by omega
      have HLT := Lib.hid hlt
      obtain ⟨T, hT⟩ : ∃ T, bs (List.replicate j (48 : UInt8) ++ D) = T := ⟨_, rfl⟩
      rw [hT] at hsum hsz HSZ ⊢
      clear hnx hlen hlen2 hT hlt
      go_wp2_with fail
      exact ⟨⟨by first | trivial | rfl, j + 1, by have := HLT.out; omega, rfl⟩, by have h1 := HLT.out; show k + 1 - (bs _).size < k + 1 - T.size; rw [HL2.out, HSZ.out]; omega⟩
    · have hj2 : j = k + 1 - D.length := by omega
      have hfin : List.replicate j (48 : UInt8) ++ D = lastD (k + 1) n := by rw [hj2]; exact HE.out
      rw [hfin] at hsz ⊢
      have hlt2 : ¬ ((j + D.length : Nat) : Int) < ((k + 1 : Nat) : Int) := by omega
      clear hfin hlen
      go_wp2
      go_ret
      exact ⟨rfl, rfl⟩
set_option maxRecDepth 100000 in
theorem rseal_any (w : World) (p : Nat) (hp : p < 100000000) (c : List UInt8) (hc : c.length = 48) : Calls Tryz.prog 78 #[.int .i64 (p : Int), .string (bs c)] w fun e w' => e = .returned (.string (bs (sumL (lastD 8 p ++ c) ++ c))) ∧ w = w' := by
  have PD := Lib.hid (show Calls Tryz.prog 79 #[.int .i64 (p : Int), .int .i64 8] w fun e w' => e = .returned (.string (bs (lastD 8 p))) ∧ w = w' from rdig_any w p 7 (by decide) hp)
  have h1 := rsum_str (lastD 8 p) c (by rw [lastD_len, hc]; decide)
  have hl : (lastD 8 p ++ c).length ≤ 4611686018427387904 := by rw [List.length_append, lastD_len, hc]; decide
  have PS := Lib.hid (rsum_any w (lastD 8 p ++ c) hl)
  obtain ⟨S, hS⟩ : ∃ S, sumL (lastD 8 p ++ c) = S := ⟨_, rfl⟩
  have h2 := rsum_str S c (by rw [← hS, sumL_len, hc]; decide)
  rw [hS] at PS ⊢
  obtain ⟨D, hD⟩ : ∃ D, lastD 8 p = D := ⟨_, rfl⟩
  rw [hD] at PD PS h1
  clear hS hD hl hc
  go_enter Tryz.func78, Tryz.ntmps78
  go_wp2_with (first | (go_at_call 79; refine PD.out.mono ?_; clear PD; rintro e w1 ⟨rfl, h9⟩; have h9 := h9.symm; subst h9) | (go_at_call 100; refine PS.out.mono ?_; rintro e w1 ⟨rfl, h9⟩; have h9 := h9.symm; subst h9))
  go_ret
  exact ⟨rfl, rfl⟩
theorem sealL_48 {p : Nat} {c : List UInt8} (h : c.length = 48) : sealL p c = sumL (lastD 8 p ++ c) ++ c := by
  unfold sealL
  rw [padL_full h]
theorem sealL_pad (p : Nat) {c : List UInt8} (h : c.length ≤ 48) : sealL p c = sealL p (c ++ List.replicate (48 - c.length) 0) := by
  rw [sealL_48 (c := c ++ List.replicate (48 - c.length) 0) (by rw [List.length_append, List.length_replicate]; omega)]
  unfold sealL
  rw [padL_short h]
set_option maxRecDepth 100000 in
theorem rHead_any (w : World) (p n : Nat) (hp : p < 100000000) (hn : n < 100000000) : Calls Tryz.prog 44 #[.int .i64 (p : Int), .int .i64 (n : Int)] w fun e w' => e = .returned (.string (bs (headL p n))) ∧ Below w.heap.size w w' := by
  have PD := Lib.hid (show Calls Tryz.prog 79 #[.int .i64 (n : Int), .int .i64 8] w fun e w' => e = .returned (.string (bs (lastD 8 n))) ∧ w = w' from rdig_any w n 7 (by decide) hn)
  have PZ := Lib.hid (rzeros_any w 40 (by decide))
  have h1 := rsum_str (lastD 8 n) (List.replicate 40 0) (by rw [lastD_len]; decide)
  have hl : (lastD 8 n ++ List.replicate 40 0).length = 48 := by rw [List.length_append, lastD_len]; rfl
  have PS := Lib.hid (fun W => rseal_any W p hp (lastD 8 n ++ List.replicate 40 0) hl)
  have he : headL p n = sumL (lastD 8 p ++ (lastD 8 n ++ List.replicate 40 0)) ++ (lastD 8 n ++ List.replicate 40 0) := by
    unfold headL
    rw [sealL_pad p (by rw [lastD_len]; decide), lastD_len, sealL_48 hl]
  rw [← he] at PS
  obtain ⟨H, hH⟩ : ∃ H, headL p n = H := ⟨_, rfl⟩
  rw [hH] at PS ⊢
  obtain ⟨D, hD⟩ : ∃ D, lastD 8 n = D := ⟨_, rfl⟩
  obtain ⟨Z, hZ⟩ : ∃ Z, List.replicate 40 (0 : UInt8) = Z := ⟨_, rfl⟩
  rw [hD, hZ] at PS h1
  rw [hD] at PD
  rw [hZ] at PZ
  clear hH hD hZ hl he
  go_enter Tryz.func44, Tryz.ntmps44
  go_wp2_with (first | (go_at_call 79; refine PD.out.mono ?_; clear PD; rintro e w1 ⟨rfl, h9⟩; have h9 := h9.symm; subst h9) | (go_at_call 80; refine PZ.out.mono ?_; rintro e w2 ⟨rfl, b2⟩) | (go_at_call 78; refine (PS.out _).mono ?_; rintro e w3 ⟨rfl, h9⟩; have h9 := h9.symm; subst h9))
  go_ret
  exact ⟨rfl, b2⟩
theorem digit_cases (b : UInt8) : (48 ≤ b.toNat ∧ b.toNat ≤ 57 ∧ Lib.digitVal b = some (b.toNat - 48)) ∨ ((b.toNat < 48 ∨ 57 < b.toNat) ∧ Lib.digitVal b = none) := by
  unfold Lib.digitVal
  by_cases h : 48 ≤ b.toNat ∧ b.toNat ≤ 57
  · exact .inl ⟨h.1, h.2, if_pos h⟩
  · exact .inr ⟨by omega, if_neg h⟩
set_option maxRecDepth 100000 in
set_option maxHeartbeats 2000000 in
theorem rnumber_any (w : World) (s : List UInt8) (hs : s.length ≤ 8) : Calls Tryz.prog 76 #[.string (bs s)] w fun e w' => e = .returned (.int .i64 (numS s)) ∧ w = w' := by
  have hsz := bs_size s
  obtain ⟨R, hR⟩ : ∃ R, numS s = R := ⟨_, rfl⟩
  rw [hR]
  have HR := Lib.hid hR
  clear hR
  go_enter Tryz.func76, Tryz.ntmps76
  go_wp2_with fail
  go_loopw [3, 4] (fun n v wr => wr = w ∧ ∃ k m : Nat, k ≤ s.length ∧ v = .int .i64 (k : Int) ∧ n = .int .i64 (m : Int) ∧ m < 10 ^ k ∧ Hid (Lib.decFrom 0 (s.take k) = some m)) (fun _ v _ => s.length - (intOf v).toNat)
  case atStart => exact ⟨rfl, 0, 0, Nat.zero_le _, rfl, rfl, by decide, Lib.hid rfl⟩
  case round =>
    obtain ⟨hwr, k, m, hk, rfl, rfl, hm, HK⟩ := hrel
    have hwr := hwr.symm
    subst hwr
    have hp8 : 10 ^ k ≤ 10 ^ 8 := Nat.pow_le_pow_right (by decide) (by omega)
    have hp8' : (10 : Nat) ^ 8 = 100000000 := rfl
    by_cases hlt : k < s.length
    · obtain ⟨b, hb⟩ : ∃ b, s[k]? = some b := ⟨_, List.getElem?_eq_getElem hlt⟩
      have hin3 : k < (bs s).size := by rw [bs_size]; exact hlt
      have hget : (bs s)[k] = b := by
        obtain ⟨h1, h2⟩ := List.getElem?_eq_some_iff.1 hb
        rw [← h2]
        rfl
      have hki : (k : Int) < (s.length : Int) := by omega
      have hb255 := b.toNat_lt
      rcases digit_cases b with ⟨d1, d2, d3⟩ | ⟨d1, d2⟩
      · have hst := Lib.decFrom_take s k 0 m b _ HK.out hb d3
        have e1 : decide ((b.toNat : Int) < 48) = false := decide_eq_false (by omega)
        have e2 : decide (57 < (b.toNat : Int)) = false := decide_eq_false (by omega)
        have hmb : m * 10 + (b.toNat - 48) < 10 ^ (k + 1) := by rw [Nat.pow_succ]; omega
        have HST := Lib.hid hst
        have HMB := Lib.hid hmb
        have HLT := Lib.hid hlt
        have hm8 : m < 100000000 := by omega
        obtain ⟨d, hd⟩ : ∃ d, b.toNat = 48 + d := ⟨b.toNat - 48, by omega⟩
        have hd9 : d ≤ 9 := by omega
        rw [show b.toNat - 48 = d by omega] at HST HMB
        have w1 : IntKind.u8.wrap ((b.toNat : Int) - 48) = (d : Int) := by rw [hd]; rw [show ((48 + d : Nat) : Int) - 48 = (d : Int) by omega]; exact IntWalk.u8_in _ (by omega)
        have w2 : IntKind.i64.wrap (10 * (m : Int)) = 10 * (m : Int) := IntWalk.i64_in _ (by omega)
        have w3 : IntKind.i64.wrap (10 * (m : Int) + (d : Int)) = 10 * (m : Int) + (d : Int) := IntWalk.i64_in _ (by omega)
        have w4 : IntKind.i64.wrap (d : Int) = (d : Int) := IntWalk.i64_in _ (by omega)
        clear hst hmb hb d1 d2 d3 hlt hd hp8 hp8' hm HK
        go_wp2_with fail
        exact ⟨⟨by first | trivial | rfl, k + 1, m * 10 + d, HLT.out, by go_num, by go_num, HMB.out, HST⟩, by have := HLT.out; simp [intOf]; omega⟩
      · have hfin : R = -1 := by
          rw [← HR.out]
          unfold numS
          cases hd : Lib.decFrom 0 s with
          | none => rfl
          | some n =>
            obtain ⟨d, e⟩ := Lib.digit_of_decFrom s 0 n hd k b hb
            rw [d2] at e
            cases e
        subst hfin
        clear HR HK hb d2 hm hp8 hp8'
        rcases d1 with d1 | d1
        · have e1 : decide ((b.toNat : Int) < 48) = true := decide_eq_true (by omega)
          go_wp2_with fail
          go_ret
          exact ⟨rfl, rfl⟩
        · have e1 : decide ((b.toNat : Int) < 48) = false := decide_eq_false (by omega)
          have e2 : decide (57 < (b.toNat : Int)) = true := decide_eq_true (by omega)
          go_wp2_with fail
          go_ret
          exact ⟨rfl, rfl⟩
    · obtain rfl : k = s.length := by omega
      have hfin : R = (m : Int) := by
        rw [← HR.out]
        unfold numS
        have := HK.out
        rw [List.take_length] at this
        rw [this]
      subst hfin
      clear HR HK hm hp8 hp8'
      go_wp2_with fail
      go_ret
      exact ⟨rfl, rfl⟩
end Go.Proofs.YtieicjjmkedgaaaGreatDoor

/- The reference's counts, sectors and pieces, walked. -/
namespace Go.Proofs.YtieicjjmkedgaaaGreatDoor
open Go.RowKit Go.Shelf

set_option maxRecDepth 100000 in
set_option maxHeartbeats 2000000 in
theorem rjcount_any (w : World) (p : Nat) (hp : p < 100000000) (s : List UInt8) (hs : s.length = 64) (room : Nat) (hr : room < 100000000) :
    Calls Tryz.prog 41 #[.int .i64 (p : Int), .string (bs s), .int .i64 (room : Int)] w fun e w' => e = .returned (.int .i64 (cntL p s room)) ∧ Below w.heap.size w w' := by
  rw [← rcnt_eq hr]
  obtain ⟨R, hR⟩ : ∃ R, rcntS p s room = R := ⟨_, rfl⟩
  rw [hR]
  unfold rcntS at hR
  have PZ := Lib.hid (fun W => rZero_any W)
  have hsz := bs_size s
  by_cases h0 : s = zeroL
  · subst h0
    rw [if_pos rfl] at hR
    subst hR
    generalize zeroL = Z at *
    clear hs
    go_enter Tryz.func41, Tryz.ntmps41
    go_wp2_with (go_at_call 45; refine (PZ.out _).mono ?_; rintro e w1 ⟨rfl, b1⟩)
    go_ret
    exact ⟨rfl, b1⟩
  · rw [if_neg h0] at hR
    have q0 := beq_bs h0
    have s1 : ∀ W : World, (Instr.slice 9 (.string (bs s)) (some (.int .i64 16)) (some (.int .i64 24)) none).run Tryz.prog W = .ok (.string (bs ((s.drop 16).take 8))) W := sl_mid s 16 24 (by decide) (by omega)
    have hl8 : ((s.drop 16).take 8).length ≤ 8 := by rw [List.length_take]; omega
    have PN := Lib.hid (fun W => rnumber_any W ((s.drop 16).take 8) hl8)
    rw [hs] at hsz
    generalize zeroL = Z at *
    have hnn : numS ((s.drop 16).take 8) = match Lib.decFrom 0 ((s.drop 16).take 8) with | some n => (n : Int) | none => -1 := rfl
    obtain ⟨D, hD⟩ : ∃ D, (s.drop 16).take 8 = D := ⟨_, rfl⟩
    rw [hD] at hR s1 PN hnn
    cases hd : Lib.decFrom 0 D with
    | none =>
      rw [hd] at hR hnn
      simp only at hR hnn
      subst hR
      rw [hnn] at PN
      clear hl8 hD hd hnn h0 hs
      go_enter Tryz.func41, Tryz.ntmps41
      go_wp2_with (first | (go_at_call 45; refine (PZ.out _).mono ?_; rintro e w1 ⟨rfl, b1⟩) | (go_at_call 76; refine (PN.out _).mono ?_; rintro e w2 ⟨rfl, h9⟩; have h9 := h9.symm; subst h9))
      go_ret
      exact ⟨rfl, b1⟩
    | some n =>
      rw [hd] at hR hnn
      simp only at hR hnn
      rw [hnn] at PN
      by_cases hle : n ≤ room
      · have PH := Lib.hid (fun W => rHead_any W p n hp (by omega))
        obtain ⟨H, hH⟩ : ∃ H, headL p n = H := ⟨_, rfl⟩
        rw [hH] at hR PH
        have e1 : ¬ ((n : Int) < 0) := by omega
        have e2 : ¬ ((room : Int) < (n : Int)) := by omega
        by_cases hHs : H = s
        · subst hHs
          rw [if_pos ⟨hle, rfl⟩] at hR
          subst hR
          clear hl8 hD hd hnn h0 hs hH
          go_enter Tryz.func41, Tryz.ntmps41
          go_wp2_with (first | (go_at_call 45; refine (PZ.out _).mono ?_; rintro e w1 ⟨rfl, b1⟩) | (go_at_call 76; refine (PN.out _).mono ?_; rintro e w2 ⟨rfl, h9⟩; have h9 := h9.symm; subst h9) | (go_at_call 44; refine (PH.out _).mono ?_; rintro e w3 ⟨rfl, b3⟩))
          go_ret
          exact ⟨rfl, b1.trans (b3.mono b1.size)⟩
        · rw [if_neg (fun e => hHs e.2)] at hR
          have q1 := beq_bs hHs
          subst hR
          clear hl8 hD hd hnn h0 hs hH hHs
          go_enter Tryz.func41, Tryz.ntmps41
          go_wp2_with (first | (go_at_call 45; refine (PZ.out _).mono ?_; rintro e w1 ⟨rfl, b1⟩) | (go_at_call 76; refine (PN.out _).mono ?_; rintro e w2 ⟨rfl, h9⟩; have h9 := h9.symm; subst h9) | (go_at_call 44; refine (PH.out _).mono ?_; rintro e w3 ⟨rfl, b3⟩))
          go_ret
          exact ⟨rfl, b1.trans (b3.mono b1.size)⟩
      · rw [if_neg (fun e => hle e.1)] at hR
        subst hR
        have e1 : ¬ ((n : Int) < 0) := by omega
        have e2 : (room : Int) < (n : Int) := by omega
        clear hl8 hD hd hnn h0 hs
        go_enter Tryz.func41, Tryz.ntmps41
        go_wp2_with (first | (go_at_call 45; refine (PZ.out _).mono ?_; rintro e w1 ⟨rfl, b1⟩) | (go_at_call 76; refine (PN.out _).mono ?_; rintro e w2 ⟨rfl, h9⟩; have h9 := h9.symm; subst h9))
        go_ret
        exact ⟨rfl, b1⟩
set_option maxRecDepth 100000 in
set_option maxHeartbeats 2000000 in
theorem rsector_any (w : World) (p : Nat) (hp : p < 100000000) (c : List UInt8) (hc : c.length ≤ 46) : Calls Tryz.prog 64 #[.int .i64 (p : Int), .string (bs c)] w fun e w' => e = .returned (.string (bs (secL p c))) ∧ Below w.heap.size w w' := by
  have h100 : c.length < 10 ^ (1 + 1) := by
    rw [show (10 : Nat) ^ (1 + 1) = 100 from rfl]
    omega
  have pd := rdig_any w c.length 1 (by decide) h100
  rw [show ((1 + 1 : Nat) : Int) = 2 from rfl, show (1 + 1 : Nat) = 2 from rfl] at pd
  have PD := Lib.hid pd
  clear pd h100
  have PZ := Lib.hid (rzeros_any w (46 - c.length) (by omega))
  have h1 := rsum_str (lastD 2 c.length) c (by rw [lastD_len]; omega)
  have h2 := rsum_str (lastD 2 c.length ++ c) (List.replicate (46 - c.length) 0) (by rw [List.length_append, lastD_len, List.length_replicate]; omega)
  have hl : (lastD 2 c.length ++ c ++ List.replicate (46 - c.length) 0).length = 48 := by rw [List.length_append, List.length_append, lastD_len, List.length_replicate]; omega
  have PS := Lib.hid (fun W => rseal_any W p hp _ hl)
  have he : secL p c = sumL (lastD 8 p ++ (lastD 2 c.length ++ c ++ List.replicate (46 - c.length) 0)) ++ (lastD 2 c.length ++ c ++ List.replicate (46 - c.length) 0) := by
    unfold secL
    rw [sealL_pad p (by rw [List.length_append, lastD_len]; omega), show 48 - (lastD 2 c.length ++ c).length = 46 - c.length by rw [List.length_append, lastD_len]; omega, sealL_48 hl]
  rw [← he] at PS
  have hsz := bs_size c
  have hz : ((46 - c.length : Nat) : Int) = 46 - (c.length : Int) := by omega
  rw [hz] at PZ
  obtain ⟨H, hH⟩ : ∃ H, secL p c = H := ⟨_, rfl⟩
  rw [hH] at PS ⊢
  obtain ⟨D, hD⟩ : ∃ D, lastD 2 c.length = D := ⟨_, rfl⟩
  obtain ⟨Z, hZ⟩ : ∃ Z, List.replicate (46 - c.length) (0 : UInt8) = Z := ⟨_, rfl⟩
  rw [hD, hZ] at PS h2
  rw [hD] at PD h1
  rw [hZ] at PZ
  obtain ⟨m, hm⟩ : ∃ m, c.length = m := ⟨_, rfl⟩
  rw [hm] at hsz hc PD PZ
  rw [List.append_assoc] at PS
  clear hH hD hZ hl he hz hm
  go_enter Tryz.func64, Tryz.ntmps64
  go_wp2_with (first | (go_at_call 79; refine PD.out.mono ?_; clear PD; rintro e w1 ⟨rfl, h9⟩; have h9 := h9.symm; subst h9) | (go_at_call 80; refine PZ.out.mono ?_; rintro e w2 ⟨rfl, b2⟩) | (go_at_call 78; refine (PS.out _).mono ?_; rintro e w3 ⟨rfl, h9⟩; have h9 := h9.symm; subst h9))
  go_ret
  exact ⟨rfl, b2⟩
set_option maxRecDepth 100000 in
set_option maxHeartbeats 2000000 in
theorem rpiece_any (w : World) (p : Nat) (hp : p < 100000000) (s : List UInt8) (hs : s.length = 64) :
    Calls Tryz.prog 42 #[.int .i64 (p : Int), .string (bs s)] w fun e w' => e = .returned (.string (bs (rpcS p s))) ∧ Below w.heap.size w w' := by
  obtain ⟨R, hR⟩ : ∃ R, rpcS p s = R := ⟨_, rfl⟩
  rw [hR]
  unfold rpcS at hR
  have hsz := bs_size s
  have s1 : ∀ W : World, (Instr.slice 9 (.string (bs s)) (some (.int .i64 16)) (some (.int .i64 18)) none).run Tryz.prog W = .ok (.string (bs ((s.drop 16).take 2))) W := sl_mid s 16 18 (by decide) (by omega)
  have hl2 : ((s.drop 16).take 2).length ≤ 8 := by rw [List.length_take]; omega
  have PN := Lib.hid (fun W => rnumber_any W ((s.drop 16).take 2) hl2)
  rw [hs] at hsz
  have hnn : numS ((s.drop 16).take 2) = match Lib.decFrom 0 ((s.drop 16).take 2) with | some n => (n : Int) | none => -1 := rfl
  obtain ⟨D, hD⟩ : ∃ D, (s.drop 16).take 2 = D := ⟨_, rfl⟩
  rw [hD] at hR s1 PN hnn
  cases hd : Lib.decFrom 0 D with
  | none =>
    rw [hd] at hR hnn
    simp only at hR hnn
    subst hR
    rw [hnn] at PN
    clear hl2 hD hd hnn hs
    go_enter Tryz.func42, Tryz.ntmps42
    go_wp2_with (go_at_call 76; refine (PN.out _).mono ?_; rintro e w2 ⟨rfl, h9⟩; have h9 := h9.symm; subst h9)
    go_ret
    exact ⟨rfl, Below.refl _ _⟩
  | some n =>
    rw [hd] at hR hnn
    simp only at hR hnn
    rw [hnn] at PN
    by_cases h1 : 1 ≤ n
    · by_cases h46 : n ≤ 46
      · have s2 : ∀ W : World, (Instr.slice 9 (.string (bs s)) (some (.int .i64 18)) (some (.int .i64 (18 + (n : Int)))) none).run Tryz.prog W = .ok (.string (bs ((s.drop 18).take n))) W := fun W => by
          have := sl_mid s 18 (18 + n) (by omega) (by omega) W
          rwa [show 18 + n - 18 = n by omega, Int.natCast_add] at this
        have PS := Lib.hid (fun W => rsector_any W p hp ((s.drop 18).take n) (by rw [List.length_take]; omega))
        obtain ⟨C, hC⟩ : ∃ C, (s.drop 18).take n = C := ⟨_, rfl⟩
        rw [hC] at hR s2 PS
        obtain ⟨H, hH⟩ : ∃ H, secL p C = H := ⟨_, rfl⟩
        rw [hH] at hR PS
        have e1 : ¬ ((n : Int) < 1) := by omega
        have e2 : ¬ (46 < (n : Int)) := by omega
        by_cases hHs : H = s
        · subst hHs
          rw [if_pos ⟨h1, h46, rfl⟩] at hR
          subst hR
          clear hl2 hD hd hnn hs hH hC
          go_enter Tryz.func42, Tryz.ntmps42
          go_wp2_with (first | (go_at_call 76; refine (PN.out _).mono ?_; rintro e w2 ⟨rfl, h9⟩; have h9 := h9.symm; subst h9) | (go_at_call 64; refine (PS.out _).mono ?_; rintro e w3 ⟨rfl, b3⟩))
          go_ret
          exact ⟨rfl, b3⟩
        · rw [if_neg (fun e => hHs e.2.2)] at hR
          have q1 := beq_bs hHs
          subst hR
          clear hl2 hD hd hnn hs hH hHs hC
          go_enter Tryz.func42, Tryz.ntmps42
          go_wp2_with (first | (go_at_call 76; refine (PN.out _).mono ?_; rintro e w2 ⟨rfl, h9⟩; have h9 := h9.symm; subst h9) | (go_at_call 64; refine (PS.out _).mono ?_; rintro e w3 ⟨rfl, b3⟩))
          go_ret
          exact ⟨rfl, b3⟩
      · rw [if_neg (fun e => h46 e.2.1)] at hR
        subst hR
        have e1 : ¬ ((n : Int) < 1) := by omega
        have e2 : 46 < (n : Int) := by omega
        clear hl2 hD hd hnn hs
        go_enter Tryz.func42, Tryz.ntmps42
        go_wp2_with (go_at_call 76; refine (PN.out _).mono ?_; rintro e w2 ⟨rfl, h9⟩; have h9 := h9.symm; subst h9)
        go_ret
        exact ⟨rfl, Below.refl _ _⟩
    · rw [if_neg (fun e => h1 e.1)] at hR
      subst hR
      have e1 : (n : Int) < 1 := by omega
      clear hl2 hD hd hnn hs
      go_enter Tryz.func42, Tryz.ntmps42
      go_wp2_with (go_at_call 76; refine (PN.out _).mono ?_; rintro e w2 ⟨rfl, h9⟩; have h9 := h9.symm; subst h9)
      go_ret
      exact ⟨rfl, Below.refl _ _⟩
end Go.Proofs.YtieicjjmkedgaaaGreatDoor

/- A region that draws its order, walked in stages: reads whose values hang on no world; reads that hold as long as S does, with calls that keep S behind them; operations that come up one at a time. Over any program. -/
namespace Go.Proofs.YtieicjjmkedgaaaGreatDoor
open Go.RowKit

inductive Stg where
  /-- reads whose values hang on no world -/
  | free (hs : List Nat)
  /-- reads that hold as long as S does; then operations, one at a time, behind each of which S holds; all others wait for all the reads -/
  | hold (S : World → Prop) (hs es : List Nat)
  /-- one at a time -/
  | run (ts : List Nat)

section
variable {P : Program} {Q : Exit → Act → World → Prop}

def onesB (ops : Array Oper) : List Nat → Array Bool → Option (Array Bool)
  | [], listed => some listed
  | t :: ts, listed => if Region.ready .any ops listed = [t] then onesB ops ts (listed.setIfInBounds t true) else none
def leftOver (n : Nat) (listed : Array Bool) (hs es : List Nat) : List Nat := (List.range n).filter fun j => !listed.getD j false && !hs.contains j && !es.contains j
def stgB (l : List Oper) : List Stg → Array Bool → Bool
  | [], listed => (Region.ready .any l.toArray listed).isEmpty
  | .free hs :: r, listed => match headB .any l.toArray hs listed with
    | none => false
    | some l2 => stgB l r l2
  | .hold _ hs es :: r, listed => match headB .any l.toArray hs listed with
    | none => false
    | some l2 => waitB .any l.toArray (leftOver l.length listed hs es) hs && match onesB l.toArray es l2 with
      | none => false
      | some l3 => stgB l r l3
  | .run ts :: r, listed => match onesB l.toArray ts listed with
    | none => false
    | some l2 => stgB l r l2
def cnt : List Stg → Nat
  | [] => 0
  | .free hs :: r => hs.length + cnt r
  | .hold _ hs es :: r => hs.length + (es.length + cnt r)
  | .run ts :: r => ts.length + cnt r
def wpRun (P : Program) (l : List Oper) (Q : Exit → Act → World → Prop) (K : Act → World → Prop) (ts : List Nat) (a : Act) (w : World) : Prop := wpList P l.toArray (Exit.then K Q) (pick l ts) a w
def wpStg (P : Program) (l : List Oper) (Q : Exit → Act → World → Prop) : List Stg → Act → World → Prop
  | [], a, w => Q .normal a w
  | .free hs :: r, a, w => wpHeld P l.toArray (fun _ => True) (fun a' => wpStg P l Q r a' w) (pick l hs) a
  | .hold S hs es :: r, a, w => S w ∧ wpHeld P l.toArray S (fun a' => wpEarly P l.toArray S Q (fun a w => wpStg P l Q r a w) (pick l es) a' w) (pick l hs) a
  | .run ts :: r, a, w => wpRun P l Q (fun a' w' => wpStg P l Q r a' w') ts a w

theorem wpOp_of_cons {ops : Array Oper} {w : World} {i : Nat} {o : Oper} {rest : List Oper} {K : Act → World → Prop} {a : Act} (hi : ops[i]? = some o) (h : wpList P ops (Exit.then K Q) (o :: rest) a w) : wpOp P ops Q i (fun a' w' => wpList P ops (Exit.then K Q) rest a' w') a w := by
  unfold wpOp
  simp only [hi]
  unfold wpList at h
  split
  · rename_i hw
    rw [if_pos hw] at h
    rcases h with h | ⟨h1, a0, w0, h2⟩
    · left
      unfold Oper.wp at *
      generalize (execOp a.eval o).run P w = r at *
      cases r with
      | ok n w' =>
        cases n <;> simp only [Oper.upon] at h ⊢ <;>
          first
            | exact h
            | exact Calls.mono h (fun e w'' he => by cases e <;> first | exact he | (obtain ⟨a1, w1, h1⟩ := he; exact ⟨a1, w1, h1⟩))
            | exact Rows.mono h (fun _ _ he => he)
      | halt x w' => cases x <;> simp only [Oper.upon] at h ⊢ <;> exact h
    · exact .inr ⟨h1, a0, w0, h2⟩
  · rename_i hw
    rw [if_neg hw] at h
    exact h

theorem onesB_closed {l : List Oper} : ∀ (ts : List Nat) (listed l2 : Array Bool), Closed .any l.toArray listed → onesB l.toArray ts listed = some l2 → Closed .any l.toArray l2
  | [], _, _, hc, h => by simp only [onesB, Option.some.injEq] at h; subst h; exact hc
  | t :: ts, listed, l2, hc, h => by
    unfold onesB at h
    split at h
    · rename_i hr
      exact onesB_closed ts _ _ (hc.set (by rw [hr]; simp)) h
    · cases h
theorem wpAny_ones {l : List Oper} {K : Act → World → Prop} {g : Nat} {l2 : Array Bool} (hK : ∀ a w, K a w → wpAny P .any l.toArray Q g l2 a w) : ∀ (ts : List Nat) (listed : Array Bool) (a : Act) (w : World), onesB l.toArray ts listed = some l2 →
    wpList P l.toArray (Exit.then K Q) (pick l ts) a w → wpAny P .any l.toArray Q (ts.length + g) listed a w
  | [], listed, a, w, h, hw => by
    simp only [onesB, Option.some.injEq] at h
    subst h
    rw [List.length_nil, Nat.zero_add]
    exact hK a w hw
  | t :: ts, listed, a, w, h, hw => by
    unfold onesB at h
    split at h
    · rename_i hr
      have hr' : t ∈ Region.ready .any l.toArray listed := by rw [hr]; simp
      obtain ⟨_, o, h0, _⟩ := mem_ready.1 hr'
      have hp : pick l (t :: ts) = o :: pick l ts := by
        have : l[t]? = some o := by simpa using h0
        simp [pick, this]
      rw [hp] at hw
      rw [show (t :: ts).length + g = (ts.length + g) + 1 by simp; omega]
      refine ⟨fun h1 => (by rw [hr] at h1; cases h1), fun i hi => ?_⟩
      rw [hr] at hi
      obtain rfl : i = t := by simpa using hi
      exact wpOp_mono (fun a' w' h' => wpAny_ones hK ts _ a' w' h h') (wpOp_of_cons h0 hw)
    · cases h
theorem wpAnyE_ones {l : List Oper} {S : World → Prop} {late : Nat → Bool} {K : Act → World → Prop} {g : Nat} {l2 : Array Bool} (hK : ∀ a w, K a w → wpAnyE P .any l.toArray Q S late g l2 a w) : ∀ (es : List Nat) (listed : Array Bool) (a : Act) (w : World), onesB l.toArray es listed = some l2 →
    wpEarly P l.toArray S Q K (pick l es) a w → wpAnyE P .any l.toArray Q S late (es.length + g) listed a w
  | [], listed, a, w, h, hw => by
    simp only [onesB, Option.some.injEq] at h
    subst h
    rw [List.length_nil, Nat.zero_add]
    exact hK a w hw
  | t :: ts, listed, a, w, h, hw => by
    unfold onesB at h
    split at h
    · rename_i hr
      have hr' : t ∈ Region.ready .any l.toArray listed := by rw [hr]; simp
      obtain ⟨_, o, h0, _⟩ := mem_ready.1 hr'
      have hp : pick l (t :: ts) = o :: pick l ts := by
        have : l[t]? = some o := by simpa using h0
        simp [pick, this]
      rw [hp] at hw
      rw [show (t :: ts).length + g = (ts.length + g) + 1 by simp; omega]
      refine ⟨fun h1 => (by rw [hr] at h1; cases h1), fun i hi => ?_⟩
      rw [hr] at hi
      obtain rfl : i = t := by simpa using hi
      exact wpOp_mono (fun a' w' h' => ⟨fun _ => h'.1, wpAnyE_ones hK ts _ a' w' h h'.2⟩) (wpOp_of_one h0 hw)
    · cases h
theorem onesB_set {ops : Array Oper} : ∀ (ts : List Nat) (listed l2 : Array Bool), onesB ops ts listed = some l2 → setAll ts listed = l2
  | [], _, _, h => by simp only [onesB, Option.some.injEq] at h; exact h
  | t :: ts, listed, l2, h => by
    unfold onesB at h
    split at h
    · exact onesB_set ts _ _ h
    · cases h
theorem setAll_of {j : Nat} : ∀ (ts : List Nat) (listed : Array Bool), j < listed.size → (setAll ts listed).getD j false = false → listed.getD j false = false ∧ j ∉ ts
  | [], _, _, h => ⟨h, by simp⟩
  | t :: ts, listed, hj, h => by
    have h' : (setAll ts (listed.setIfInBounds t true)).getD j false = false := h
    obtain ⟨h1, h2⟩ := setAll_of ts (listed.setIfInBounds t true) (by simpa using hj) h'
    by_cases htj : t = j
    · subst htj
      simp [Array.getD, hj] at h1
    · rw [getD_set_ne false htj] at h1
      exact ⟨h1, by simp [h2, Ne.symm htj]⟩
theorem size_setAll : ∀ (ts : List Nat) (listed : Array Bool), (setAll ts listed).size = listed.size
  | [], _ => rfl
  | t :: ts, listed => by
    show (setAll ts (listed.setIfInBounds t true)).size = _
    rw [size_setAll ts, Array.size_setIfInBounds]
theorem wpAny_stg {l : List Oper} (hsel : Region.noSelect l.toArray = true) (hQ : ∀ c (d : Option Tmp) (v : Value) a w, Q (.panic c) (a.put d v) w → Q (.panic c) a w) :
    ∀ (st : List Stg) (listed : Array Bool) (a : Act) (w : World), stgB l st listed = true → Closed .any l.toArray listed → listed.size = l.length → wpStg P l Q st a w → wpAny P .any l.toArray Q (cnt st) listed a w
  | [], listed, a, w, hB, _, _, h => ⟨by simpa [stgB] using hB, h⟩
  | .free hs :: r, listed, a, w, hB, hc, hz, h => by
    unfold stgB at hB
    cases h2 : headB .any l.toArray hs listed with
    | none => rw [h2] at hB; cases hB
    | some l2 =>
      rw [h2] at hB
      have hz2 : l2.size = l.length := by rw [← headB_set _ _ _ h2, size_setAll]; exact hz
      exact wpAny_of_E _ _ _ _ (wpAnyE_held (P := P) (Q := Q) (md := .any) (w := w) (S := fun _ => True) (late := fun _ => false) (hs := hs) (g := cnt r) hsel hQ (fun _ _ _ h => by cases h) (fun _ _ => rfl) trivial
        (fun a' ha' => wpAnyE_any (fun _ => trivial) _ _ _ _ (wpAny_stg hsel hQ r l2 a' w hB (headB_closed _ _ _ hc h2) hz2 ha')) hs listed a (fun k hk => hk) hc h2 h)
  | .hold S hs es :: r, listed, a, w, hB, hc, hz, h => by
    unfold stgB at hB
    cases h2 : headB .any l.toArray hs listed with
    | none => rw [h2] at hB; cases hB
    | some l2 =>
      rw [h2] at hB
      simp only [Bool.and_eq_true] at hB
      obtain ⟨hw, hB⟩ := hB
      cases h3 : onesB l.toArray es l2 with
      | none => rw [h3] at hB; cases hB
      | some l3 =>
        rw [h3] at hB
        simp only at hB
        have hc2 := headB_closed _ _ _ hc h2
        have hs2 := headB_set _ _ _ h2
        have hs3 := onesB_set _ _ _ h3
        have hz2 : l2.size = l.length := by rw [← hs2, size_setAll]; exact hz
        have hz3 : l3.size = l.length := by rw [← hs3, size_setAll]; exact hz2
        refine wpAny_of_E _ _ _ _ (wpAnyE_held (P := P) (Q := Q) (md := .any) (w := w) (S := S) (late := fun j => (leftOver l.length listed hs es).contains j) (hs := hs) (g := es.length + cnt r) hsel hQ
          (fun j i hi hj => List.all_eq_true.1 (List.all_eq_true.1 hw j (List.contains_iff_mem.1 hj)) i hi) (fun i hi => ?_) h.1
          (fun a' ha' => wpAnyE_ones (fun a2 w2 h2 => wpAnyE_late _ _ _ _ (fun j hj hjl => ?_) (wpAny_stg hsel hQ r l3 a2 w2 hB (onesB_closed _ _ _ hc2 h3) hz3 h2)) es l2 a' w h3 ha') hs listed a (fun k hk => hk) hc h2 h.2)
        · cases hq : (leftOver l.length listed hs es).contains i with
          | false => rfl
          | true =>
            have := List.mem_filter.1 (List.contains_iff_mem.1 hq)
            simp [hi] at this
        · have hjl2 : j < l.length := by simpa using hj
          rw [← hs3] at hjl
          obtain ⟨g1, g2⟩ := setAll_of es l2 (by omega) hjl
          rw [← hs2] at g1
          obtain ⟨g3, g4⟩ := setAll_of hs listed (by omega) g1
          refine List.contains_iff_mem.2 (List.mem_filter.2 ⟨List.mem_range.2 hjl2, ?_⟩)
          simp [g2, g4]
          simpa using g3
  | .run ts :: r, listed, a, w, hB, hc, hz, h => by
    unfold stgB at hB
    cases h2 : onesB l.toArray ts listed with
    | none => rw [h2] at hB; cases hB
    | some l2 =>
      rw [h2] at hB
      have hz2 : l2.size = l.length := by rw [← onesB_set _ _ _ h2, size_setAll]; exact hz
      exact wpAny_ones (fun a' w' h' => wpAny_stg hsel hQ r l2 a' w' hB (onesB_closed _ _ _ hc h2) hz2 h') ts listed a w h2 h

/-- A REGION THAT DRAWS ITS ORDER, IN STAGES. -/
theorem wp_region_stages {id : Nat} {l : List Oper} {a : Act} {w : World} (st : List Stg) (hm : P.follows .mixedOrders = true) (hB : (Region.noSelect l.toArray && decide (cnt st = l.length) && stgB l st (Array.replicate l.length false)) = true)
    (hQ : ∀ c (d : Option Tmp) (v : Value) a w, Q (.panic c) (a.put d v) w → Q (.panic c) a w) (h : wpStg P l Q st a w.drew) : (Code.region id l.toArray true).wp P Q a w := by
  simp only [Bool.and_eq_true, decide_eq_true_eq] at hB
  obtain ⟨⟨hsel, hlen⟩, hst⟩ := hB
  have hc0 : Closed .any l.toArray (Array.replicate l.length false) := fun j oj _ hl => by rw [getD_replicate_false] at hl; cases hl
  refine wp_region_any hm ?_
  have k := wpAny_stg (P := P) (Q := Q) hsel hQ st _ a w.drew hst hc0 (by simp) h
  rw [hlen] at k
  have hsz : l.toArray.size = l.length := by simp
  rw [hsz]
  exact k
theorem wpHeld_want {ops : Array Oper} {S : World → Prop} {K : Act → Prop} {a : Act} {o : Oper} {rest : List Oper} (v : Value) (hw : Region.wanted o (yielded ops a.tmps) = true) (h : ∀ w, S w → (execOp a.eval o).run P w = .ok (.value v) w) (hK : wpHeld P ops S K rest (a.put o.dst v)) :
    wpHeld P ops S K (o :: rest) a := ⟨v, .inl ⟨hw, h⟩, hK⟩
theorem wpHeld_skip {ops : Array Oper} {S : World → Prop} {K : Act → Prop} {a : Act} {o : Oper} {rest : List Oper} (hw : Region.wanted o (yielded ops a.tmps) = false) (hK : wpHeld P ops S K rest (a.put o.dst undef)) :
    wpHeld P ops S K (o :: rest) a := ⟨undef, .inr ⟨hw, rfl⟩, hK⟩
end
end Go.Proofs.YtieicjjmkedgaaaGreatDoor
