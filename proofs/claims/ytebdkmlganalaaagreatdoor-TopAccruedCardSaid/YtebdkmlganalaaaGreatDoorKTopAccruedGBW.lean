/- The reference's Few and Short: what they promise. Reading a migration as an argument. The reference's Few of a migration: what it promises. -/
import Derived.Test.YtebdkmlganalaaaGreatDoorKTopAccruedGAS
import Derived.Deep.LoopGhost
import Derived.Test.YtebdkmlganalaaaGreatDoorKTopAccruedMe
import Derived.Test.YtebdkmlganalaaaGreatDoorKTopAccruedGBR
import Derived.Test.YtebdkmlganalaaaGreatDoorKTopAccruedGBD
import Derived.Test.YtebdkmlganalaaaGreatDoorKTopAccruedGBL
namespace Go.Proofs.YtebdkmlganalaaaGreatDoor
open Go.RowKit Go.Shelf

/-- Few's promise: short lists. -/
def FewM (m : Mt) : Prop := m.cs.length ≤ 70 ∧ m.mv.length ≤ 70 ∧ m.rs.length ≤ 70 ∧ m.ls.length ≤ 70
theorem FewM.sml {m : Mt} (h : FewM m) : Sml m := ⟨by have := h.1; omega, by have := h.2.1; omega, by have := h.2.2.1; omega, by have := h.2.2.2; omega⟩
def FewPost (w : World) (P : Prop) (e : Ending) (w' : World) : Prop := ∃ q : Bool, e = .returned (.bool q) ∧ (q = true → P) ∧ Below w.heap.size w w'

set_option maxRecDepth 100000 in
set_option maxHeartbeats 8000000 in
theorem few_any (w : World) (B : Nat) (m : Mt) (x : MtX) (h : MtAt w B m x) (hB : B ≤ w.heap.size) (z1 : m.cs.length ≤ 9223372036854775807) (z2 : m.mv.length ≤ 9223372036854775807) (z3 : m.rs.length ≤ 9223372036854775807) (z4 : m.ls.length ≤ 9223372036854775807) :
    Calls Tryz.prog 5 #[.agg (mtC m x)] w (FewPost w (FewM m)) := by
  have hll := h.len
  have H := Lib.hid h
  have HB := Lib.hid hB
  clear h hB
  obtain ⟨id, o, cs, pr, st, mv, rs, ls⟩ := m
  obtain ⟨a1, c1, a2, c2, a3, c3, a4, c4, lv⟩ := x
  simp only at z1 z2 z3 z4 hll
  have hf : ∀ nc nm nr nl, cs.length = nc → mv.length = nm → rs.length = nr → ls.length = nl → (FewM ⟨id, o, cs, pr, st, mv, rs, ls⟩ ↔ nc ≤ 70 ∧ nm ≤ 70 ∧ nr ≤ 70 ∧ nl ≤ 70) := by
    intro nc nm nr nl e1 e2 e3 e4
    subst e1 e2 e3 e4
    exact Iff.rfl
  obtain ⟨nc, h1⟩ : ∃ k, cs.length = k := ⟨_, rfl⟩
  obtain ⟨nm, h2⟩ : ∃ k, mv.length = k := ⟨_, rfl⟩
  obtain ⟨nr, h3⟩ : ∃ k, rs.length = k := ⟨_, rfl⟩
  obtain ⟨nl, h4⟩ : ∃ k, ls.length = k := ⟨_, rfl⟩
  have hf := hf nc nm nr nl h1 h2 h3 h4
  obtain ⟨PP, hPP⟩ : ∃ P, FewM ⟨id, o, cs, pr, st, mv, rs, ls⟩ = P := ⟨_, rfl⟩
  rw [hPP] at hf ⊢
  have ec : mtC ⟨id, o, cs, pr, st, mv, rs, ls⟩ ⟨a1, c1, a2, c2, a3, c3, a4, c4, lv⟩ = #[.string id, .int .i64 o, .slice a1 nc c1, .string pr, .int .i64 st, .slice a2 nm c2, .slice a3 nr c3, .slice a4 nl c4] := by simp [mtC, h1, h2, h3, h4]
  rw [ec]
  rw [h1] at z1
  rw [h2] at z2
  rw [h3] at z3
  rw [h4] at z4 hll
  have HF := Lib.hid hf
  have HV3 := Lib.hid h3
  have HLL := Lib.hid hll
  clear ec hf hPP h1 h2 h3 h4 hll
  have hb := below_self_alloc w (.cells #[.string id, .int .i64 o, .slice a1 nc c1, .string pr, .int .i64 st, .slice a2 nm c2, .slice a3 nr c3, .slice a4 nl c4] 27)
  have k0 := Blk.new w 27 #[.string id, .int .i64 o, .slice a1 nc c1, .string pr, .int .i64 st, .slice a2 nm c2, .slice a3 nr c3, .slice a4 nl c4]
  have no : ∀ w', Below w.heap.size w w' → FewPost w PP (.returned (.bool false)) w' := fun w' h => ⟨false, rfl, (fun h => by cases h), h⟩
  have NO := Lib.hid no
  clear no
  cases d1 : decide ((200 : Int) < wrap64 ((id.size : Int) + (pr.size : Int))) with
  | true =>
    obtain ⟨t0, t1, -⟩ := k0.all
    go_enter Tryz.func5, Tryz.ntmps5
    go_wp2
    go_ret
    exact NO.out _ hb
  | false =>
    by_cases q1 : nc ≤ 70
    case neg =>
      have d2 : decide ((70 : Int) < (nc : Int)) = true := decide_eq_true (by omega)
      obtain ⟨t0, t1, -⟩ := k0.all
      go_enter Tryz.func5, Tryz.ntmps5
      go_wp2
      go_ret
      exact NO.out _ hb
    case pos =>
      have d2 : decide ((70 : Int) < (nc : Int)) = false := decide_eq_false (by omega)
      by_cases q2 : nm ≤ 70
      case neg =>
        have d3 : decide ((70 : Int) < (nm : Int)) = true := decide_eq_true (by omega)
        obtain ⟨t0, t1, -⟩ := k0.all
        go_enter Tryz.func5, Tryz.ntmps5
        go_wp2
        go_ret
        exact NO.out _ hb
      case pos =>
        have d3 : decide ((70 : Int) < (nm : Int)) = false := decide_eq_false (by omega)
        by_cases q3 : nr ≤ 70
        case neg =>
          have d4 : decide ((70 : Int) < (nr : Int)) = true := decide_eq_true (by omega)
          obtain ⟨t0, t1, -⟩ := k0.all
          go_enter Tryz.func5, Tryz.ntmps5
          go_wp2
          go_ret
          exact NO.out _ hb
        case pos =>
          have d4 : decide ((70 : Int) < (nr : Int)) = false := decide_eq_false (by omega)
          by_cases q4 : nl ≤ 70
          case neg =>
            have d5 : decide ((70 : Int) < (nl : Int)) = true := decide_eq_true (by omega)
            obtain ⟨t0, t1, -⟩ := k0.all
            go_enter Tryz.func5, Tryz.ntmps5
            go_wp2
            go_ret
            exact NO.out _ hb
          case pos =>
            have d5 : decide ((70 : Int) < (nl : Int)) = false := decide_eq_false (by omega)
            have HP := Lib.hid (HF.out.2 ⟨q1, q2, q3, q4⟩)
            obtain ⟨t0, t1, -⟩ := k0.all
            go_enter Tryz.func5, Tryz.ntmps5
            go_wp2_with fail
            have hrs : RtsAt (w.alloc (.cells #[.string id, .int .i64 o, .slice a1 nc c1, .string pr, .int .i64 st, .slice a2 nm c2, .slice a3 nr c3, .slice a4 nl c4] 27)) B a3 rs := H.out.rs.below (hb.mono HB.out)
            have hls : LmsAt (w.alloc (.cells #[.string id, .int .i64 o, .slice a1 nc c1, .string pr, .int .i64 st, .slice a2 nm c2, .slice a3 nr c3, .slice a4 nl c4] 27)) B a4 lv := H.out.ls.below (hb.mono HB.out)
            have HR := Lib.hid hrs
            have HL := Lib.hid hls
            have HB0 := Lib.hid hb
            have K0 := Lib.hid k0
            clear t0 t1 hb k0 hrs hls HF H d1 d2 d3 d4 d5
            generalize w.alloc (.cells #[.string id, .int .i64 o, .slice a1 nc c1, .string pr, .int .i64 st, .slice a2 nm c2, .slice a3 nr c3, .slice a4 nl c4] 27) = W0 at *
            go_loop [3] (fun i => ∃ k : Nat, k ≤ nr ∧ i = .int .i64 (k : Int)) (fun i => nr - (intOf i).toNat)
            case atStart => exact ⟨0, Nat.zero_le _, rfl⟩
            case round =>
              obtain ⟨k, hk, rfl⟩ := hrel
              obtain ⟨t0, t1, -⟩ := K0.out.all
              by_cases hlt : k < nr
              · obtain ⟨x, hx⟩ : ∃ x, rs[k]? = some x := ⟨_, List.getElem?_eq_getElem (by rw [HV3.out]; exact hlt)⟩
                obtain ⟨ga, oa, hA, hga, p0, p1⟩ := HR.out k x hx
                subst hA
                obtain ⟨x1, x2⟩ := x
                simp only at p0 p1
                clear hx
                by_cases q5 : (60 : Int) < (x1.size : Int)
                · have d6 : decide ((60 : Int) < (x1.size : Int)) = true := decide_eq_true q5
                  go_wp2
                  go_ret
                  exact NO.out _ HB0.out
                · have d6 : decide ((60 : Int) < (x1.size : Int)) = false := decide_eq_false q5
                  go_wp2
                  go_round
                  case rel => exact ⟨k + 1, by omega, by go_num⟩
                  case measure => simp [intOf]; omega
              · obtain rfl : k = nr := by omega
                go_wp2_with fail
                clear t0 t1 HR
                go_loop [4] (fun i => ∃ k : Nat, k ≤ nl ∧ i = .int .i64 (k : Int)) (fun i => nl - (intOf i).toNat)
                case atStart => exact ⟨0, Nat.zero_le _, rfl⟩
                case round =>
                  clear hk
                  obtain ⟨k, hk, rfl⟩ := hrel
                  obtain ⟨t0, t1, -⟩ := K0.out.all
                  by_cases hlt : k < nl
                  · obtain ⟨x, hx⟩ : ∃ x, lv[k]? = some x := ⟨_, List.getElem?_eq_getElem (by rw [HLL.out]; exact hlt)⟩
                    obtain ⟨ga, oa, hA, hga, p0, p1, p2, p3, p4, hLm⟩ := HL.out k x hx
                    subst hA
                    obtain ⟨⟨xi, xn, xu, xf, xS⟩, xA, xc⟩ := x
                    simp only at p0 p1 p2 p3 p4
                    obtain ⟨ns, hns⟩ : ∃ n, xS.length = n := ⟨_, rfl⟩
                    rw [hns] at p4
                    clear hx hLm p1 p2 p3 hns
                    by_cases q5 : (60 : Int) < (xi.size : Int)
                    · have d6 : decide ((60 : Int) < (xi.size : Int)) = true := decide_eq_true q5
                      go_wp2
                      go_ret
                      exact NO.out _ HB0.out
                    · have d6 : decide ((60 : Int) < (xi.size : Int)) = false := decide_eq_false q5
                      by_cases q6 : (70 : Int) < (ns : Int)
                      · have d7 : decide ((70 : Int) < (ns : Int)) = true := decide_eq_true q6
                        go_wp2
                        go_ret
                        exact NO.out _ HB0.out
                      · have d7 : decide ((70 : Int) < (ns : Int)) = false := decide_eq_false q6
                        go_wp2
                        go_round
                        case rel => exact ⟨k + 1, by omega, by go_num⟩
                        case measure => simp [intOf]; omega
                  · obtain rfl : k = nl := by omega
                    go_wp2
                    go_ret
                    exact ⟨true, rfl, fun _ => HP.out, HB0.out⟩

/-- Short's promise. -/
def FewP (p : Pc) : Prop := p.ss.length ≤ 70 ∧ p.ms.length ≤ 70
theorem FewP.sml {p : Pc} (h : FewP p) : SmlP p := ⟨by have := h.1; omega, by have := h.2; omega⟩

set_option maxRecDepth 100000 in
set_option maxHeartbeats 4000000 in
theorem short_any (w : World) (B : Nat) (p : Pc) (x : PcX) (h : PcAt w B p x) (hB : B ≤ w.heap.size) (z1 : p.ss.length ≤ 9223372036854775807) (z2 : p.ms.length ≤ 9223372036854775807) :
    Calls Tryz.prog 6 #[.agg (pcC p x)] w (FewPost w (FewP p)) := by
  have H := Lib.hid h
  have HB := Lib.hid hB
  clear h hB
  obtain ⟨name, ss, ms⟩ := p
  obtain ⟨a1, c1, a2, c2⟩ := x
  simp only at z1 z2
  obtain ⟨n1, h1⟩ : ∃ k, ss.length = k := ⟨_, rfl⟩
  obtain ⟨n2, h2⟩ : ∃ k, ms.length = k := ⟨_, rfl⟩
  have hf : FewP ⟨name, ss, ms⟩ ↔ n1 ≤ 70 ∧ n2 ≤ 70 := by
    unfold FewP
    simp only [h1, h2]
  obtain ⟨PP, hPP⟩ : ∃ P, FewP ⟨name, ss, ms⟩ = P := ⟨_, rfl⟩
  rw [hPP] at hf ⊢
  have ec : pcC ⟨name, ss, ms⟩ ⟨a1, c1, a2, c2⟩ = #[.string name, .slice a1 n1 c1, .slice a2 n2 c2] := by simp [pcC, h1, h2]
  rw [ec]
  rw [h1] at z1
  rw [h2] at z2
  have HF := Lib.hid hf
  have HV1 := Lib.hid h1
  clear ec hf hPP h1 h2
  have hb := below_self_alloc w (.cells #[.string name, .slice a1 n1 c1, .slice a2 n2 c2] 34)
  have k0 := Blk.new w 34 #[.string name, .slice a1 n1 c1, .slice a2 n2 c2]
  have no : ∀ w', Below w.heap.size w w' → FewPost w PP (.returned (.bool false)) w' := fun w' h => ⟨false, rfl, (fun h => by cases h), h⟩
  have NO := Lib.hid no
  clear no
  have hss : BtsAt (w.alloc (.cells #[.string name, .slice a1 n1 c1, .slice a2 n2 c2] 34)) B a1 ss := H.out.ss.below (hb.mono HB.out)
  have HR := Lib.hid hss
  clear hss
  obtain ⟨t0, t1, -⟩ := k0.all
  go_enter Tryz.func6, Tryz.ntmps6
  go_wp2_with fail
  have HB0 := Lib.hid hb
  have K0 := Lib.hid k0
  clear t0 t1 hb k0
  generalize w.alloc (.cells #[.string name, .slice a1 n1 c1, .slice a2 n2 c2] 34) = W0 at *
  go_loop [3] (fun i => ∃ k : Nat, k ≤ n1 ∧ i = .int .i64 (k : Int)) (fun i => n1 - (intOf i).toNat)
  case atStart => exact ⟨0, Nat.zero_le _, rfl⟩
  case round =>
    obtain ⟨k, hk, rfl⟩ := hrel
    obtain ⟨t0, t1, -⟩ := K0.out.all
    by_cases hlt : k < n1
    · obtain ⟨x, hx⟩ : ∃ x, ss[k]? = some x := ⟨_, List.getElem?_eq_getElem (by rw [HV1.out]; exact hlt)⟩
      obtain ⟨ga, oa, hA, hga, p0⟩ := HR.out k x hx
      subst hA
      clear hx
      by_cases q5 : (60 : Int) < (x.size : Int)
      · have d6 : decide ((60 : Int) < (x.size : Int)) = true := decide_eq_true q5
        go_wp2
        go_ret
        exact NO.out _ HB0.out
      · have d6 : decide ((60 : Int) < (x.size : Int)) = false := decide_eq_false q5
        go_wp2
        go_round
        case rel => exact ⟨k + 1, by omega, by go_num⟩
        case measure => simp [intOf]; omega
    · obtain rfl : k = n1 := by omega
      by_cases q0 : (name.size : Int) ≤ 60
      case neg =>
        have d0 : decide ((name.size : Int) ≤ 60) = false := decide_eq_false q0
        go_wp2
        go_ret
        exact NO.out _ HB0.out
      case pos =>
        have d0 : decide ((name.size : Int) ≤ 60) = true := decide_eq_true q0
        by_cases q1 : k ≤ 70
        case neg =>
          have d1 : decide ((k : Int) ≤ 70) = false := decide_eq_false (by omega)
          go_wp2
          go_ret
          exact NO.out _ HB0.out
        case pos =>
          have d1 : decide ((k : Int) ≤ 70) = true := decide_eq_true (by omega)
          by_cases q2 : n2 ≤ 70
          case neg =>
            have d2 : decide ((n2 : Int) ≤ 70) = false := decide_eq_false (by omega)
            go_wp2
            go_ret
            exact NO.out _ HB0.out
          case pos =>
            have d2 : decide ((n2 : Int) ≤ 70) = true := decide_eq_true (by omega)
            go_wp2
            go_ret
            exact ⟨true, rfl, fun _ => HF.out.2 ⟨q1, q2⟩, HB0.out⟩
end Go.Proofs.YtebdkmlganalaaaGreatDoor

namespace Go.Proofs.YtebdkmlganalaaaGreatDoor
open Go.RowKit Go.ChangeShapes Go.WideShapes Go.Deep

section
variable {H : Type} {enc : TypeId × Value → H} {w : World} {base : Nat} {spare : Nat → Bool} {held : Bool} {fuel len cap : Nat} {A : Option Addr} {x : DataW H × List MemPlace}
set_option maxRecDepth 100000 in
theorem prs_trod (hf : DataW.trod enc Tryz.prog w base spare held fuel 28 [.slice A len cap] = some x) : ∃ l : List S2, l.length = len ∧ PrsAt w w.heap.size A l ∧ (∀ r ∈ l, r.1.size ≤ 9223372036854775807 ∧ r.2.size ≤ 9223372036854775807) ∧ len ≤ 9223372036854775807 := by
  have hlen := slice_len Tryz.underlying28 hf
  have hs := slice_elems Tryz.underlying28 (k := 2) (by kernel_rfl) (by decide) hf
  obtain ⟨l, hl, hp⟩ := list_of (p := fun i (s : S2) => (∃ g off, A = some ⟨g, off, none⟩ ∧ g < w.heap.size ∧ w.cell? ⟨g, off + i * 2, none⟩ = some (.string s.1) ∧ w.cell? ⟨g, off + i * 2 + 1, none⟩ = some (.string s.2)) ∧ s.1.size ≤ 9223372036854775807 ∧ s.2.size ≤ 9223372036854775807) len (fun i hi => by
    obtain ⟨g, off, n, vs, y, hA, hg, hvl, hc, ht'⟩ := hs i hi
    match vs, hvl with
    | [v0, v1], _ =>
      obtain ⟨xs, n, _, hx, hl, hlen, hfl⟩ := DataW.trod_array Tryz.underlying67 ht'
      have c1 : Tryz.prog.cellsOf 9 = 1 := by kernel_rfl
      have gg : ∀ i, i < xs.length → ∃ y, xs[i]? = some y := fun i hi => ⟨_, List.getElem?_eq_getElem hi⟩
      obtain ⟨y0, e0⟩ := gg 0 (by omega)
      obtain ⟨y1, e1⟩ := gg 1 (by omega)
      have t0 := (hfl 0 (by decide)).trans e0
      have t1 := (hfl 1 (by decide)).trans e1
      rw [c1] at t0 t1
      obtain ⟨s, h0, _, w0⟩ := DataW.trod_string Tryz.underlying9 t0
      obtain ⟨d, h1, _, w1⟩ := DataW.trod_string Tryz.underlying9 t1
      have q0 : v0 = .string s := by simpa using h0
      have q1 : v1 = .string d := by simpa using h1
      subst q0 q1
      exact ⟨(s, d), ⟨g, off, hA, hg, hc 0 _ rfl, hc 1 _ rfl⟩, w0, w1⟩)
  exact ⟨l, hl, fun i v h => (hp i v h).1, fun s h => by obtain ⟨i, hi⟩ := List.getElem?_of_mem h; exact (hp i s hi).2, hlen⟩
/-- What a migration at an argument gives. -/
def MgIn (w : World) (z : Mg × MgX) : Prop := MgAt w w.heap.size z.1 z.2 ∧ z.1.st.length ≤ 9223372036854775807 ∧ z.1.rs.length ≤ 9223372036854775807 ∧ z.1.ts.length ≤ 9223372036854775807
set_option maxRecDepth 100000 in
theorem migration_at {v : Value} {d : DataW H} {p : List MemPlace} {cs : Array Value} (hv : v = .agg cs) (hsz : cs.size = Tryz.prog.cellsOf 30)
    (h : DataW.Trod enc Tryz.prog w base spare held 30 v d p) : ∃ z : Mg × MgX, v = .agg (mgC z.1 z.2) ∧ MgIn w z := by
  subst hv
  have h2 : Tryz.prog.cellsOf 30 = 5 := by kernel_rfl
  rw [h2] at hsz
  obtain ⟨fuel, hf⟩ := h
  have hc : (Value.agg cs).cells.toList = cs.toList := rfl
  rw [hc] at hf
  obtain ⟨c0, c1, c2, c3, c4, hcs⟩ : ∃ c0 c1 c2 c3 c4, cs = #[c0, c1, c2, c3, c4] := by
    obtain ⟨l⟩ := cs
    match l, hsz with
    | [c0, c1, c2, c3, c4], _ => exact ⟨c0, c1, c2, c3, c4, rfl⟩
  subst hcs
  obtain ⟨xs, n, _, hx, hl, hlen, hfl⟩ := DataW.trod_struct Tryz.underlying30 hf
  have g : ∀ i, i < xs.length → ∃ y, xs[i]? = some y := fun i hi => ⟨_, List.getElem?_eq_getElem hi⟩
  have hlen2 : xs.length = 5 := hlen
  obtain ⟨y0, e0⟩ := g 0 (by omega)
  obtain ⟨y1, e1⟩ := g 1 (by omega)
  obtain ⟨y2, e2⟩ := g 2 (by omega)
  obtain ⟨y3, e3⟩ := g 3 (by omega)
  obtain ⟨y4, e4⟩ := g 4 (by omega)
  obtain ⟨k0, h0, _, w0⟩ := DataW.trod_string Tryz.underlying9 ((hfl 0 _ rfl).trans e0)
  obtain ⟨k1, h1, _, w1⟩ := DataW.trod_string Tryz.underlying9 ((hfl 1 _ rfl).trans e1)
  have t2 : DataW.trod enc Tryz.prog w base spare held n 22 [c2] = some y2 := (hfl 2 _ rfl).trans e2
  have t3 : DataW.trod enc Tryz.prog w base spare held n 28 [c3] = some y3 := (hfl 3 _ rfl).trans e3
  have t4 : DataW.trod enc Tryz.prog w base spare held n 25 [c4] = some y4 := (hfl 4 _ rfl).trans e4
  obtain ⟨A2, l2, q2, rfl⟩ := slice_form Tryz.underlying22 t2
  obtain ⟨A3, l3, q3, rfl⟩ := slice_form Tryz.underlying28 t3
  obtain ⟨A4, l4, q4, rfl⟩ := slice_form Tryz.underlying25 t4
  have r0 : c0 = .string k0 := by injection h0
  have r1 : c1 = .string k1 := by injection h1
  subst r0 r1
  obtain ⟨st, hst, b2, m2⟩ := ints_trod Tryz.underlying22 t2
  obtain ⟨rs, hrs, b3, n3, m3⟩ := prs_trod t3
  obtain ⟨lv, hls, b4, m4⟩ := lms_trod t4
  subst hst hrs hls
  refine ⟨(⟨k0, k1, st, rs, lv.map (·.1)⟩, ⟨A2, q2, A3, q3, A4, q4, lv⟩), ?_, ⟨b2, b3, b4, rfl, w0, w1, n3⟩, m2, m3, by rw [List.length_map]; exact m4⟩
  simp [mgC]
end
end Go.Proofs.YtebdkmlganalaaaGreatDoor

namespace Go.Proofs.YtebdkmlganalaaaGreatDoor
open Go.RowKit Go.Shelf

def FewG (g : Mg) : Prop := g.st.length ≤ 70 ∧ g.rs.length ≤ 70 ∧ g.ts.length ≤ 70
theorem FewG.sml {g : Mg} (h : FewG g) : SmlG g := ⟨by have := h.1; omega, by have := h.2.1; omega, by have := h.2.2; omega⟩

set_option maxRecDepth 100000 in
set_option maxHeartbeats 8000000 in
theorem gfew_any (w : World) (B : Nat) (g : Mg) (x : MgX) (h : MgAt w B g x) (hB : B ≤ w.heap.size) (z1 : g.st.length ≤ 9223372036854775807) (z2 : g.rs.length ≤ 9223372036854775807) (z3 : g.ts.length ≤ 9223372036854775807) :
    Calls Tryz.prog 7 #[.agg (mgC g x)] w (FewPost w (FewG g)) := by
  have H := Lib.hid h
  have HB := Lib.hid hB
  have hJl : x.tv.length = g.ts.length := by have := congrArg List.length h.tv; simpa using this
  clear h hB
  obtain ⟨fr, tn, st, rs, ts⟩ := g
  obtain ⟨b1, d1, b2, d2, b3, d3, tv⟩ := x
  simp only at z1 z2 z3 hJl
  obtain ⟨n1, h1⟩ : ∃ k, st.length = k := ⟨_, rfl⟩
  obtain ⟨n2, h2⟩ : ∃ k, rs.length = k := ⟨_, rfl⟩
  obtain ⟨n3, h3⟩ : ∃ k, ts.length = k := ⟨_, rfl⟩
  have hf : FewG ⟨fr, tn, st, rs, ts⟩ ↔ n1 ≤ 70 ∧ n2 ≤ 70 ∧ n3 ≤ 70 := by
    unfold FewG
    simp only [h1, h2, h3]
  obtain ⟨PP, hPP⟩ : ∃ P, FewG ⟨fr, tn, st, rs, ts⟩ = P := ⟨_, rfl⟩
  rw [hPP] at hf ⊢
  have ec : mgC ⟨fr, tn, st, rs, ts⟩ ⟨b1, d1, b2, d2, b3, d3, tv⟩ = #[.string fr, .string tn, .slice b1 n1 d1, .slice b2 n2 d2, .slice b3 n3 d3] := by simp [mgC, h1, h2, h3]
  rw [ec]
  rw [h1] at z1
  rw [h2] at z2
  rw [h3] at z3 hJl
  have HF := Lib.hid hf
  have HV2 := Lib.hid h2
  have HJL := Lib.hid hJl
  clear ec hf hPP h1 h2 h3 hJl
  have hb := below_self_alloc w (.cells #[.string fr, .string tn, .slice b1 n1 d1, .slice b2 n2 d2, .slice b3 n3 d3] 30)
  have k0 := Blk.new w 30 #[.string fr, .string tn, .slice b1 n1 d1, .slice b2 n2 d2, .slice b3 n3 d3]
  have no : ∀ w', Below w.heap.size w w' → FewPost w PP (.returned (.bool false)) w' := fun w' h => ⟨false, rfl, (fun h => by cases h), h⟩
  have NO := Lib.hid no
  clear no
  obtain ⟨t0, t1, -⟩ := k0.all
  cases d1 : decide ((100 : Int) < wrap64 ((fr.size : Int) + (tn.size : Int))) with
  | true =>
    go_enter Tryz.func7, Tryz.ntmps7
    go_wp2
    go_ret
    exact NO.out _ hb
  | false =>
  by_cases q1 : n1 ≤ 70
  case neg =>
    have d2 : decide ((70 : Int) < (n1 : Int)) = true := decide_eq_true (by omega)
    go_enter Tryz.func7, Tryz.ntmps7
    go_wp2
    go_ret
    exact NO.out _ hb
  have d2 : decide ((70 : Int) < (n1 : Int)) = false := decide_eq_false (by omega)
  by_cases q2 : n2 ≤ 70
  case neg =>
    have d3 : decide ((70 : Int) < (n2 : Int)) = true := decide_eq_true (by omega)
    go_enter Tryz.func7, Tryz.ntmps7
    go_wp2
    go_ret
    exact NO.out _ hb
  have d3 : decide ((70 : Int) < (n2 : Int)) = false := decide_eq_false (by omega)
  by_cases q3 : n3 ≤ 70
  case neg =>
    have d4 : decide ((70 : Int) < (n3 : Int)) = true := decide_eq_true (by omega)
    go_enter Tryz.func7, Tryz.ntmps7
    go_wp2
    go_ret
    exact NO.out _ hb
  have d4 : decide ((70 : Int) < (n3 : Int)) = false := decide_eq_false (by omega)
  have HP := Lib.hid (HF.out.2 ⟨q1, q2, q3⟩)
  go_enter Tryz.func7, Tryz.ntmps7
  go_wp2_with fail
  have HB0 := Lib.hid hb
  have K0 := Lib.hid k0
  clear t0 t1 hb k0 HF d1 d2 d3 d4
  generalize w.alloc (.cells #[.string fr, .string tn, .slice b1 n1 d1, .slice b2 n2 d2, .slice b3 n3 d3] 30) = W0 at *
  go_loopw [3] (fun i wr => ∃ k : Nat, k ≤ n2 ∧ i = .int .i64 (k : Int) ∧ Hid (Blk wr w.heap.size 30 #[.string fr, .string tn, .slice b1 n1 d1, .slice b2 n2 d2, .slice b3 n3 d3]) ∧ Hid (Below w.heap.size w wr)) (fun i _ => n2 - (intOf i).toNat)
  case atStart => exact ⟨0, Nat.zero_le _, rfl, K0, HB0⟩
  case round =>
    clear K0 HB0
    obtain ⟨k, hk, rfl, K0, HB0⟩ := hrel
    obtain ⟨t0, t1, t2⟩ := K0.out.all
    by_cases hlt : k < n2
    · obtain ⟨x, hx⟩ : ∃ x, rs[k]? = some x := ⟨_, List.getElem?_eq_getElem (by rw [HV2.out]; exact hlt)⟩
      obtain ⟨ga, oa, hA, hga, p0, p1⟩ := (H.out.rs.below (HB0.out.mono HB.out)) k x hx
      have hA : b2 = some ⟨ga, oa, none⟩ := hA
      subst hA
      obtain ⟨x1, x2⟩ := x
      have p0 : wr.cell? ⟨ga, oa + k * 2, none⟩ = some (.string x1) := p0
      have p1 : wr.cell? ⟨ga, oa + k * 2 + 1, none⟩ = some (.string x2) := p1
      have ib0 : (0 : Int) ≤ (k : Int) := by omega
      have ib1 : (k : Int) < (n2 : Int) := by omega
      clear hx
      cases d6 : decide ((100 : Int) < wrap64 ((x1.size : Int) + (x2.size : Int))) with
      | true =>
        go_upto_region 6 with fail
        go_quiet (fail)
        go_wp2
        go_ret
        exact NO.out _ (Lim.below_dN HB0.out nq)
      | false =>
        go_upto_region 6 with fail
        go_quiet (fail)
        have k1 := K0.out.drewN nq
        have hb1 := Lim.below_dN HB0.out nq
        have K1 := Lib.hid k1
        have HB1 := Lib.hid hb1
        clear k1 hb1 t0 t1 t2 p0 p1
        go_wp2
        go_roundw
        case rel => exact ⟨k + 1, by omega, by go_num, K1, HB1⟩
        case measure => simp [intOf]; omega
    · obtain rfl : n2 = k := by omega
      go_wp2_with fail
      clear t0 t1 t2
      go_loopw [4] (fun i wr => ∃ k : Nat, k ≤ n3 ∧ i = .int .i64 (k : Int) ∧ Hid (Blk wr w.heap.size 30 #[.string fr, .string tn, .slice b1 n1 d1, .slice b2 n2 d2, .slice b3 n3 d3]) ∧ Hid (Below w.heap.size w wr)) (fun i _ => n3 - (intOf i).toNat)
      case atStart => exact ⟨0, Nat.zero_le _, rfl, K0, HB0⟩
      case round =>
        clear K0 HB0
        obtain ⟨j, hj, rfl, K0, HB0⟩ := hrel
        obtain ⟨t0, t1, t2⟩ := K0.out.all
        by_cases hlt3 : j < n3
        · obtain ⟨x, hx⟩ : ∃ x, tv[j]? = some x := ⟨_, List.getElem?_eq_getElem (by rw [HJL.out]; exact hlt3)⟩
          have hls := H.out.ts.below (HB0.out.mono HB.out)
          obtain ⟨ga, oa, hA, hga, p0, p1, p2, p3, p4, hla⟩ := hls j x hx
          have hA : b3 = some ⟨ga, oa, none⟩ := hA
          subst hA
          have ib0 : (0 : Int) ≤ (j : Int) := by omega
          have ib1 : (j : Int) < (n3 : Int) := by omega
          have hfw : Calls Tryz.prog 20 #[.agg #[.string x.1.id, .int .i64 x.1.n, .int .i64 x.1.u, .int .i64 x.1.f, .slice x.2.1 x.1.S.length x.2.2], .slice none 0 0, .int .i64 5] wr _ := Lim.Few5_any wr x.1 B x.2.1 x.2.2 hla (Nat.le_trans HB.out HB0.out.size) none 0 0 (by omega)
          obtain ⟨r, hr⟩ : ∃ r, Lim.frB5 x.1 0 = r := ⟨_, rfl⟩
          rw [hr] at hfw
          have HFW := Lib.hid hfw
          clear hx hfw hr hls hla
          cases r with
          | false =>
            go_wp2_with fail
            refine HFW.out.mono ?_
            rintro e w2 ⟨rfl, b2⟩
            go_wp2
            go_ret
            exact NO.out _ (HB0.out.trans (b2.mono HB0.out.size))
          | true =>
            go_wp2_with fail
            refine HFW.out.mono ?_
            rintro e w2 ⟨rfl, b2⟩
            have K1 := Lib.hid (K0.out.below b2 K0.out.lt)
            have HB1 := Lib.hid (HB0.out.trans (b2.mono HB0.out.size))
            clear b2 t0 t1 t2 p0 p1 p2 p3 p4
            go_wp2
            go_roundw
            case rel => exact ⟨j + 1, by omega, by go_num, K1, HB1⟩
            case measure => simp [intOf]; omega
        · obtain rfl : n3 = j := by omega
          go_wp2
          go_ret
          exact ⟨true, rfl, fun _ => HP.out, HB0.out⟩
end Go.Proofs.YtebdkmlganalaaaGreatDoor
