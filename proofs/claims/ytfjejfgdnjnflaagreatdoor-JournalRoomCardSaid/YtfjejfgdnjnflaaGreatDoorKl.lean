/- Reading the arguments of the statements about the journal; light; an Append of a list with a long record. -/
import Derived.Test.YtfjejfgdnjnflaaGreatDoorKk
import Derived.Test.YtfjejfgdnjnflaaGreatDoorOpen
namespace Go.Proofs.YtfjejfgdnjnflaaGreatDoor
open Go.RowKit Go.Shelf Go.ChangeShapes Go.WideShapes Go.Deep

theorem i64_bd {n : Int} (h : (Lit.int .i64 n).wf = true) : -9223372036854775808 ≤ n ∧ n ≤ 9223372036854775807 := by
  simpa [Lit.wf, IntKind.min, IntKind.max, IntKind.signed, IntKind.bits] using h
/-- A slice of texts at an argument. -/
theorem strs_of {H : Type} {enc : TypeId × Value → H} {w : World} {base : Nat} {spare : Nat → Bool} {held : Bool} {fuel len cap : Nat} {A : Option Addr} {x : DataW H × List MemPlace}
    (h : DataW.trod enc Tryz.prog w base spare held fuel 26 [.slice A len cap] = some x) : ∃ l : List (List UInt8), l.length = len ∧ StrsAt w w.heap.size A l ∧ len ≤ 9223372036854775807 := by
  have ht := Tryz.underlying26
  have he := Tryz.underlying9
  have c1 : Tryz.prog.cellsOf 9 = 1 := by kernel_rfl
  have key : ∀ i, i < len → ∃ v : List UInt8, ∃ g off, A = some ⟨g, off, none⟩ ∧ g < w.heap.size ∧ w.cell? ⟨g, off + i, none⟩ = some (.string (bs v)) := by
    intro i hi
    rcases open_slice ht h with ⟨h0, _⟩ | ⟨a, len', cap', m, n, D, Pl, hcs, hb, hl, hm, hmm, hx, hall⟩
    · injection h0 with h0
      injection h0 with _ h1 _
      omega
    · injection hcs with hcs _
      injection hcs with hA hle hca
      subst hA hle hca
      have cell : ∀ i, i < len → ∃ v : List UInt8, w.cell? (a.add i) = some (.string (bs v)) := by
        intro i hi
        obtain ⟨cs', hc, ht'⟩ := hall i (by rw [hmm]; split <;> omega)
        rw [c1, Nat.mul_one] at hc
        obtain ⟨v, rfl, -, _⟩ := DataW.trod_string he ht'
        obtain ⟨_, _, hat⟩ := World.cells?_some hc
        have := hat 0 (by omega)
        rw [add_of_add, Nat.add_zero] at this
        exact ⟨v.data.toList, by rw [this]; rfl⟩
      obtain ⟨v0, hv0⟩ := cell 0 (by omega)
      obtain ⟨v, hv⟩ := cell i hi
      have ha := spot_none hv0
      have ha0 : a.add 0 = a := by obtain ⟨b, o, s⟩ := a; simp [Addr.add]
      rw [ha0, Nat.add_zero] at ha
      have hai := spot_none hv
      rw [hai] at hv
      exact ⟨v, a.block, a.off, by rw [← ha], World.block_lt_of_cell? w ⟨a.block, a.off + i, none⟩ hv, hv⟩
  obtain ⟨l, hl, hp⟩ := list_of len key
  refine ⟨l, hl, fun i v hi => hp i v hi, slice_len ht h⟩
theorem strs_at {H : Type} {enc : TypeId × Value → H} {w : World} {base : Nat} {spare : Nat → Bool} {held : Bool} {len cap : Nat} {A : Option Addr} {d : DataW H} {p : List MemPlace}
    (h : DataW.Trod enc Tryz.prog w base spare held 26 (.slice A len cap) d p) : ∃ l : List (List UInt8), l.length = len ∧ (StrsAt w w.heap.size A l ∧ l.length ≤ 9223372036854775807) := by
  obtain ⟨m, hm⟩ := h
  obtain ⟨l, h1, h2, h3⟩ := strs_of hm
  exact ⟨l, h1, h2, by omega⟩
theorem slice_form {H : Type} {enc : TypeId × Value → H} {w : World} {base : Nat} {spare : Nat → Bool} {held : Bool} {fuel : Nat} {v : Value} {x : DataW H × List MemPlace}
    (h : DataW.trod enc Tryz.prog w base spare held fuel 26 [v] = some x) : ∃ A n c, v = .slice A n c := by
  rcases DataW.trod_slice Tryz.underlying26 h with ⟨h0, _⟩ | ⟨a, len, cap, _, _, _, _, h0, _⟩
  · injection h0 with h0
    exact ⟨_, _, _, h0⟩
  · injection h0 with h0
    exact ⟨_, _, _, h0⟩
/-- An operation: what the statements' lists hold. -/
structure OpJ where
  kind : Int
  la : Option Addr
  lc : Nat
  list : List (List UInt8)
  at_ : Int
  writes : Int
  bytes : Int
def OpJ.cells (o : OpJ) : List Value := [.int .i64 o.kind, .slice o.la o.list.length o.lc, .int .i64 o.at_, .int .i64 o.writes, .int .i64 o.bytes]
structure OpsAt (w : World) (B : Nat) (A : Option Addr) (l : List OpJ) : Prop where
  cell : ∀ (i : Nat) (o : OpJ), l[i]? = some o → ∃ g off, A = some ⟨g, off, none⟩ ∧ g < B ∧ ∀ (k : Nat) (v : Value), o.cells[k]? = some v → w.cell? ⟨g, off + i * 5 + k, none⟩ = some v
  strs : ∀ o ∈ l, StrsAt w B o.la o.list ∧ o.list.length ≤ 9223372036854775807
  bd : ∀ o ∈ l, o.at_ ≤ 9223372036854775807
  len : l.length ≤ 9223372036854775807
theorem OpsAt.below {w w' : World} {B : Nat} {A : Option Addr} {l : List OpJ} (h : OpsAt w B A l) (hb : Below B w w') : OpsAt w' B A l where
  cell i o hi := by
    obtain ⟨g, off, h1, h2, h3⟩ := h.cell i o hi
    exact ⟨g, off, h1, h2, fun k v hv => (hb.cell (p := ⟨g, off + i * 5 + k, none⟩) h2).trans (h3 k v hv)⟩
  strs o ho := ⟨(h.strs o ho).1.below hb, (h.strs o ho).2⟩
  bd := h.bd
  len := h.len
theorem OpsAt.later {w w' : World} {A : Option Addr} {l : List OpJ} (h : OpsAt w w.heap.size A l) (hb : Below w.heap.size w w') : OpsAt w' w'.heap.size A l where
  cell i o hi := by
    obtain ⟨g, off, h1, h2, h3⟩ := (h.below hb).cell i o hi
    exact ⟨g, off, h1, Nat.lt_of_lt_of_le h2 hb.size, h3⟩
  strs o ho := ⟨((h.below hb).strs o ho).1.wide hb.size, (h.strs o ho).2⟩
  bd := h.bd
  len := h.len
theorem ops_at {H : Type} {enc : TypeId × Value → H} {w : World} {base : Nat} {spare : Nat → Bool} {held : Bool} {A : Option Addr} {len cap : Nat} {d : DataW H} {p : List MemPlace}
    (h : DataW.Trod enc Tryz.prog w base spare held 22 (.slice A len cap) d p) : ∃ l : List OpJ, l.length = len ∧ OpsAt w w.heap.size A l := by
  obtain ⟨fuel, hf⟩ := h
  have hlen := slice_len Tryz.underlying22 hf
  have hs := slice_structs Tryz.underlying22 Tryz.underlying36 (by kernel_rfl) (by kernel_rfl) hf
  obtain ⟨l, hl, hp⟩ := list_of (p := fun i (o : OpJ) => (∃ g off, A = some ⟨g, off, none⟩ ∧ g < w.heap.size ∧ ∀ (j : Nat) (v : Value), o.cells[j]? = some v → w.cell? ⟨g, off + i * 5 + j, none⟩ = some v) ∧ (StrsAt w w.heap.size o.la o.list ∧ o.list.length ≤ 9223372036854775807) ∧ o.at_ ≤ 9223372036854775807) len (fun i hi => by
    obtain ⟨a, n, vs, hA, hvl, hc, hsp, hfl⟩ := hs i hi
    obtain ⟨v0, y0, e0, t0⟩ := hfl 0 _ rfl
    obtain ⟨v1, y1, e1, t1⟩ := hfl 1 _ rfl
    obtain ⟨v2, y2, e2, t2⟩ := hfl 2 _ rfl
    obtain ⟨v3, y3, e3, t3⟩ := hfl 3 _ rfl
    obtain ⟨v4, y4, e4, t4⟩ := hfl 4 _ rfl
    obtain ⟨k0, h0, _, _⟩ := DataW.trod_int Tryz.underlying3 t0
    obtain ⟨lA, ln, lc, rfl⟩ := slice_form t1
    obtain ⟨k1, h1, hst, hln⟩ := strs_of t1
    subst h1
    obtain ⟨k2, h2, _, w2⟩ := DataW.trod_int Tryz.underlying3 t2
    obtain ⟨k3, h3, _, _⟩ := DataW.trod_int Tryz.underlying3 t3
    obtain ⟨k4, h4, _, _⟩ := DataW.trod_int Tryz.underlying3 t4
    simp only [List.cons.injEq, and_true] at h0 h2 h3 h4
    subst h0 h2 h3 h4
    have hvs : vs = [.int .i64 k0, .slice lA k1.length lc, .int .i64 k2, .int .i64 k3, .int .i64 k4] := by
      match vs, hvl, e0, e1, e2, e3, e4 with
      | [u0, u1, u2, u3, u4], _, e0, e1, e2, e3, e4 =>
        simp at e0 e1 e2 e3 e4
        rw [e0, e1, e2, e3, e4]
    subst hvs
    obtain ⟨g, off, spot⟩ := a
    have : spot = none := hsp (by decide)
    subst this
    have hg := (hc 0 _ rfl).2
    exact ⟨⟨k0, lA, lc, k1, k2, k3, k4⟩, ⟨g, off, hA, hg, fun j v hv => (hc j v hv).1⟩, ⟨hst, hln⟩, (i64_bd w2).2⟩)
  refine ⟨l, hl, fun i a hi => (hp i a hi).1, fun a ha => ?_, fun a ha => ?_, by omega⟩
  · obtain ⟨i, hi⟩ := List.getElem?_of_mem ha
    exact (hp i a hi).2.1
  · obtain ⟨i, hi⟩ := List.getElem?_of_mem ha
    exact (hp i a hi).2.2

open Go.RowKit Go.Shelf

set_option maxRecDepth 100000 in
set_option maxHeartbeats 4000000 in
theorem append_long {w0 w : World} {a j : Nat} {d : Dk} {x : Jn} {K : Foot} (h : Ses w0 w a d j x K) (hf : x.broken = false) (A : Option Addr) (c : Nat) (rs : List (List UInt8)) (hs : StrsIn w K A rs) (hrl : rs.length ≤ 1000)
    (hlg : rs.any (fun r => decide (20000 < r.length)) = true) :
    Calls Tryz.prog 13 #[.pointer (some ⟨j, 0, none⟩), .slice A rs.length c] w fun e w' => e = .returned (.int .i64 2) ∧ Below w.heap.size w w' := by
  have hlt := h.live.lt
  obtain ⟨J, h1, hJ, h3⟩ := h
  obtain ⟨n, cnt, xrs, br⟩ := x
  simp only at hf
  subst hf
  obtain ⟨AR, cR, hb, hoR, hj, hrJ⟩ := hJ
  simp only at *
  have hmf : ∀ (fn : Fn) (first cap : Array Value) (w : World), (Instr.makeFunc fn first cap).run Tryz.prog w = .ok (.func fn first cap) w := fun _ _ _ _ => rfl
  obtain ⟨x0, x1, x2⟩ := hb.all
  have hbel2 : ∀ v : Value, Below w.heap.size w ((w.alloc (.cells #[.pointer (some ⟨j, 0, none⟩)] 25)).alloc (.cells #[v] 27)) := fun v => ((Below.refl _ w).alloc (Nat.le_refl _) _).alloc (by simp) _
  have hc := contains_any ((w.alloc (.cells #[.pointer (some ⟨j, 0, none⟩)] 25)).alloc (.cells #[.int .i64 0] 27)) K A c rs (hs.keep (Keep.of_below (hbel2 _) hlt)) (by omega)
  rw [hlg] at hc
  have HC := Lib.hid hc
  have HB2 := Lib.hid hbel2
  clear hc hbel2 hlg hs h1 h3 hoR hrJ hlt
  go_enter_defers Tryz.func13, Tryz.ntmps13
  go_wp2_with fail
  refine HC.out.mono ?_
  rintro e w2 ⟨rfl, hw2⟩
  have hb2 : Below w.heap.size w w2 := by rw [hw2]; exact HB2.out _
  have k4 : Blk w2 (w.heap.size + 1) 27 #[.int .i64 0] := by rw [hw2]; exact Blk.new1 w _ _ _
  clear hw2 HC HB2
  obtain ⟨c4, f4, l4⟩ := k4.all
  go_wp2
  have hpost := hb2.setCell (p := ⟨w.heap.size + 1, 0, none⟩) (by show _ ≤ w.heap.size + 1; omega) (.int .i64 2)
  simp [bodyPostD, Leaves, results, Tryz.results13, go_sem, c4]
  exact hpost
theorem total_short : ∀ (rs : List (List UInt8)), (∀ r ∈ rs, r.length ≤ 20000) → total rs ≤ 20000 * rs.length
  | [], _ => by simp [total]
  | r :: rs, h => by
    have h1 := total_short rs fun x hx => h x (List.mem_cons_of_mem _ hx)
    have h2 := h r List.mem_cons_self
    have e : total (r :: rs) = r.length + total rs := by simp [total]
    rw [e, List.length_cons]
    omega
/-- Append of at most 20 records, however long. -/
theorem Ses.append2 {w0 w : World} {a j : Nat} {d : Dk} {x : Jn} {K : Foot} (h : Ses w0 w a d j x K) (ht : Tbs w0) (hf : x.broken = false) (A : Option Addr) (c : Nat) (rs : List (List UInt8)) (hs : StrsIn w K A rs) (hn : x.n ≤ 1000) (hc : x.cnt ≤ 1000)
    (hrl : rs.length ≤ 20) (hxl : x.rs.length ≤ 1000000) (hq : d.q.length ≤ 1000) :
    Calls Tryz.prog 13 #[.pointer (some ⟨j, 0, none⟩), .slice A rs.length c] w fun e w' =>
      e = .returned (.int .i64 (appendS d x rs).2.2) ∧ Ses w0 w' a (appendS d x rs).1 j (appendS d x rs).2.1 K ∧ Keep K w w' := by
  cases hlg : rs.any (fun r => decide (20000 < r.length)) with
  | true =>
    have e : appendS d x rs = (d, x, 2) := by
      unfold appendS
      rw [if_neg (by simp [hf]), hlg, if_pos rfl]
    rw [e]
    refine (append_long h hf A c rs hs (by omega) hlg).mono ?_
    rintro e w' ⟨rfl, hb⟩
    exact ⟨rfl, h.same hb, Keep.of_below hb h.live.lt⟩
  | false =>
    have hsm : ∀ r ∈ rs, r.length ≤ 20000 := by simpa using hlg
    have := total_short rs hsm
    exact h.append ht A c rs hs hn hc (by omega) (by omega) hxl hq

set_option maxRecDepth 100000 in
set_option maxHeartbeats 4000000 in
theorem light_any (w : World) (s : Int) (A : Option Addr) (c : Nat) (l : List OpJ) (h : OpsAt w w.heap.size A l) :
    Calls Tryz.prog 6 #[.int .i64 s, .slice A l.length c] w fun e w' => ∃ b : Bool, e = .returned (.bool b) ∧ (b = true → s ≤ 40 ∧ l.length ≤ 16 ∧ ∀ o ∈ l, o.list.length ≤ 20) ∧ Below w.heap.size w w' := by
  by_cases hs40 : 40 < s
  · have d1 : decide (40 < s) = true := decide_eq_true hs40
    clear h hs40
    go_enter Tryz.func6, Tryz.ntmps6
    go_wp2
    go_ret
    exact ⟨false, rfl, fun h => (by cases h), Below.refl _ _⟩
  have d1 : decide (40 < s) = false := decide_eq_false hs40
  have hll := h.len
  by_cases h16 : 16 < l.length
  · have d2 : decide (16 < (l.length : Int)) = true := decide_eq_true (by omega)
    clear h hs40
    go_enter Tryz.func6, Tryz.ntmps6
    go_wp2
    go_ret
    exact ⟨false, rfl, fun h => (by cases h), Below.refl _ _⟩
  have d2 : decide (16 < (l.length : Int)) = false := decide_eq_false (by omega)
  have HO := Lib.hid h
  clear h
  go_enter Tryz.func6, Tryz.ntmps6
  go_wp2_with fail
  go_loopw [5, 6] (fun t i wr => ∃ (z : Int) (k : Nat), k ≤ l.length ∧ t = .int .i64 z ∧ i = .int .i64 (k : Int) ∧ Hid (∀ o ∈ l.take k, o.list.length ≤ 20) ∧ Below w.heap.size w wr) (fun _ i _ => l.length - (intOf i).toNat)
  case atStart => exact ⟨0, 0, Nat.zero_le _, rfl, rfl, Lib.hid (by simp), Below.refl _ _⟩
  case round =>
    obtain ⟨z, k, hk, rfl, rfl, HK, hb⟩ := hrel
    by_cases hlt : k < l.length
    · obtain ⟨o, ho⟩ : ∃ o, l[k]? = some o := ⟨_, List.getElem?_eq_getElem hlt⟩
      have hor := HO.out.below hb
      obtain ⟨g, off, rfl, hg, hcs⟩ := hor.cell k o ho
      have c1 : wr.cell? ⟨g, off + k * 5 + 1, none⟩ = some (.slice o.la o.list.length o.lc) := hcs 1 _ rfl
      have hst := hor.strs o (List.mem_of_getElem? ho)
      have hki : (k : Int) < (l.length : Int) := by omega
      have hk0 : (0 : Int) ≤ (k : Int) := by omega
      have hnx : o.list.length ≤ 20 → ∀ x ∈ l.take (k + 1), x.list.length ≤ 20 := fun hle x hx => by
        rw [List.take_add_one, ho] at hx
        rcases List.mem_append.1 hx with hx | hx
        · exact HK.out x hx
        · obtain rfl : x = o := by simpa using hx
          exact hle
      obtain ⟨kd, la, lc, ls, at_, wn, bn⟩ := o
      simp only at *
      have HS := Lib.hid hst.1
      have hsl := hst.2
      have HNX := Lib.hid hnx
      clear hcs hst hor ho hnx HK
      by_cases h20 : 20 < ls.length
      · have d3 : decide (20 < (ls.length : Int)) = true := decide_eq_true (by omega)
        clear h20
        go_wp2
        go_ret
        exact ⟨false, rfl, fun h => (by cases h), hb⟩
      · have d3 : decide (20 < (ls.length : Int)) = false := decide_eq_false (by omega)
        have HN := Lib.hid (HNX.out (by omega))
        clear HNX
        go_wp2_with fail
        go_loopw [5, 7] (fun t m wx => ∃ (y : Int) (n : Nat), n ≤ ls.length ∧ t = .int .i64 y ∧ m = .int .i64 (n : Int) ∧ wx = wr) (fun _ m _ => ls.length - (intOf m).toNat)
        case atStart => exact ⟨z, 0, Nat.zero_le _, rfl, rfl, rfl⟩
        case round =>
          obtain ⟨y, n, hn, rfl, rfl, rfl⟩ := hrel
          by_cases hlt2 : n < ls.length
          · obtain ⟨r, hr⟩ : ∃ r, ls[n]? = some r := ⟨_, List.getElem?_eq_getElem hlt2⟩
            obtain ⟨g2, off2, rfl, hg2, hc2⟩ := HS.out n r hr
            have hni : (n : Int) < (ls.length : Int) := by omega
            have hn0 : (0 : Int) ≤ (n : Int) := by omega
            have hsz := bs_size r
            obtain ⟨y2, hy2⟩ : ∃ y2, IntKind.i64.wrap (y + (r.length : Int)) = y2 := ⟨_, rfl⟩
            clear hr
            by_cases h6 : 6000 < y2
            · have d4 : decide (6000 < y2) = true := decide_eq_true h6
              go_wp2
              go_ret
              exact ⟨false, rfl, fun h => (by cases h), hb⟩
            · have d4 : decide (6000 < y2) = false := decide_eq_false h6
              go_wp2_with fail
              go_roundw
              case rel => exact ⟨y2, n + 1, by omega, rfl, by go_num, trivial⟩
              case measure => simp [intOf]; omega
          · obtain rfl : n = ls.length := by omega
            go_wp2_with fail
            go_roundw
            case rel => exact ⟨y, k + 1, by omega, rfl, by go_num, HN, hb⟩
            case measure => simp [intOf]; omega
    · obtain rfl : k = l.length := by omega
      have hall := HK.out
      rw [List.take_length] at hall
      have HALL := Lib.hid hall
      clear hall HK
      go_wp2
      go_ret
      exact ⟨true, rfl, fun _ => ⟨by omega, by omega, HALL.out⟩, hb⟩
end Go.Proofs.YtfjejfgdnjnflaaGreatDoor
