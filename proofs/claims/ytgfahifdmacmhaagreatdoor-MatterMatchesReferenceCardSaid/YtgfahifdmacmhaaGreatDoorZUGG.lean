/- The reference's Formed. Reading a procedure as an argument. The reference's Proper. The reference's facts: Index, Valid, Fits. -/
import Derived.Test.YtgfahifdmacmhaaGreatDoorZUGE
import Derived.Test.YtgfahifdmacmhaaGreatDoorZUGC
import Derived.BigQuiet
import Derived.Test.YtgfahifdmacmhaaGreatDoorQo
import Derived.Test.YtgfahifdmacmhaaGreatDoorQq
import Derived.Test.YtgfahifdmacmhaaGreatDoorQy
namespace Go.Proofs.YtgfahifdmacmhaaGreatDoor
open Go.RowKit Go.Shelf

section
open Go.ChangeShapes Go.WideShapes Go.Deep
variable {H : Type} {enc : TypeId × Value → H} {w : World} {base : Nat} {spare : Nat → Bool} {held : Bool} {fuel len cap : Nat} {A : Option Addr} {x : DataW H × List MemPlace}
theorem slice_cap {t e : TypeId} (ht : Tryz.prog.underlying t = some (.slice e)) (hf : DataW.trod enc Tryz.prog w base spare held fuel t [.slice A len cap] = some x) : len ≤ cap := by
  rcases open_slice ht hf with ⟨h0, _⟩ | ⟨a, len', cap', m, n, D, Pl, hcs, _, hl, _⟩
  · injection h0 with h0
    injection h0 with _ h1 h2
    omega
  · injection hcs with hcs _
    injection hcs with _ h1 h2
    omega
/-- .. with room for what is there. -/
def MtIn2 (w : World) (z : Mt × MtX) : Prop := MtIn w z ∧ z.1.rs.length ≤ z.2.c3
set_option maxRecDepth 100000 in
theorem matter_at2 {v : Value} {d : DataW H} {p : List MemPlace} {cs : Array Value} (hv : v = .agg cs) (hsz : cs.size = Tryz.prog.cellsOf 27)
    (h : DataW.Trod enc Tryz.prog w base spare held 27 v d p) : ∃ z : Mt × MtX, v = .agg (mtC z.1 z.2) ∧ MtIn2 w z := by
  obtain ⟨z, hz, hin⟩ := matter_at hv hsz h
  refine ⟨z, hz, hin, ?_⟩
  subst hz
  obtain ⟨fuel, hf⟩ := h
  obtain ⟨xs, n, _, hx, hl, hlen, hfl⟩ := DataW.trod_struct Tryz.underlying27 hf
  have hlen2 : xs.length = 8 := hlen
  obtain ⟨y6, e6⟩ : ∃ y, xs[6]? = some y := ⟨_, List.getElem?_eq_getElem (by omega)⟩
  have t6 : DataW.trod enc Tryz.prog w base spare held n 24 [.slice z.2.a3 z.1.rs.length z.2.c3] = some y6 := (hfl 6 _ rfl).trans e6
  exact slice_cap Tryz.underlying24 t6
end
theorem add_zero_ (a : Addr) : a.add 0 = a := by simp [Addr.add]
/-- x[:k] inside the capacity. -/
theorem slice_to {P : Program} (t e : TypeId) (s : Nat) (ht : P.underlying t = some (.slice e)) (hs : (P.info? e).map (·.size) = some s) (A : Option Addr) (m cap k : Nat) (hk : k ≤ cap) (W : World) :
    (Instr.slice t (.slice A m cap) none (some (.int .i64 (k : Int))) none).run P W = .ok (.slice A k cap) W := by
  have ht' : P.underlying t = some (.slice (P.elem t)) := by simp [Program.elem, ht]
  have he : P.elem t = e := by simp [Program.elem, ht]
  rw [run_slice_h W t A m cap ht' .i64 (k : Int) (by omega) (by omega), he]
  cases hq : P.info? e with
  | none => simp [hq] at hs
  | some i =>
    simp [sizeOf, typeInfo, hq, Result.andThen, sliced]
    cases A with
    | none => simp
    | some a => simp [add_zero_]
theorem upB_take : ∀ (l : List Int) (a : Int) (k : Nat), upB a l = true → upB a (l.take k) = true
  | [], a, k, _ => by simp [upB]
  | x :: xs, a, 0, _ => rfl
  | x :: xs, a, k + 1, h => by
    have h' : (decide (a ≤ x ∧ x ≤ 1000000) && upB x xs) = true := h
    rw [Bool.and_eq_true] at h'
    show (decide (a ≤ x ∧ x ≤ 1000000) && upB x (xs.take k)) = true
    rw [h'.1, upB_take xs x k h'.2]
    rfl
theorem upB_at {l : List Int} {a : Int} {k : Nat} {d : Int} (hd : l[k]? = some d) : upB a (l.take (k + 1)) = (upB a (l.take k) && decide (lastI a (l.take k) ≤ d ∧ d ≤ 1000000)) := by rw [take_snoc' hd, upB_app]
theorem lastI_at {l : List Int} {a : Int} {k : Nat} {d : Int} (hd : l[k]? = some d) : lastI a (l.take (k + 1)) = d := by rw [take_snoc' hd]; simp [lastI]
theorem upB_no {l : List Int} {a : Int} {k : Nat} {d : Int} (hd : l[k]? = some d) (h : ¬ (lastI a (l.take k) ≤ d ∧ d ≤ 1000000)) : upB a l = false := by
  cases hu : upB a l with
  | false => rfl
  | true =>
    have := upB_take l a (k + 1) hu
    rw [upB_at hd, decide_eq_false h, Bool.and_false] at this
    cases this
theorem fm_false {m : Mt} {R : Bool} (h : fmB m = R) (hn : ¬ fmB m = true) : R = false := by
  rw [← h]
  simpa using hn
theorem all_is {l : List Int} {k : Nat} {n : Int} (h : l[k]? = some n) : (l.take (k + 1)).all isB = ((l.take k).all isB && isB n) := by
  rw [take_snoc' h, List.all_append]
  simp
set_option maxRecDepth 100000 in
set_option maxHeartbeats 8000000 in
theorem rformed_any (w : World) (B : Nat) (m : Mt) (x : MtX) (h : MtAt w B m x) (hB : B ≤ w.heap.size) (hs : Sml m) (hcap : m.rs.length ≤ x.c3) :
    Calls Tryz.prog 36 #[.agg (mtC m x)] w fun e w' => e = .returned (.bool (fmB m)) ∧ Below w.heap.size w w' := by
  obtain ⟨R, hR⟩ : ∃ R, fmB m = R := ⟨_, rfl⟩
  rw [hR]
  obtain ⟨hcs, hmv, hrs, hls, hlv, hid, hpr, hrn⟩ := h
  obtain ⟨s1, s2, s3, s4⟩ := hs
  obtain ⟨id, o, cs, pr, st, mv, rs, ls⟩ := m
  obtain ⟨a1, c1, a2, c2, a3, c3, a4, c4, lv⟩ := x
  simp only at *
  have hll : lv.length = ls.length := by
    have := congrArg List.length hlv
    simpa using this
  show Calls Tryz.prog 36 #[.agg #[.string id, .int .i64 o, .slice a1 cs.length c1, .string pr, .int .i64 st, .slice a2 mv.length c2, .slice a3 rs.length c3, .slice a4 ls.length c4]] w _
  have hb := below_self_alloc w (.cells #[.string id, .int .i64 o, .slice a1 cs.length c1, .string pr, .int .i64 st, .slice a2 mv.length c2, .slice a3 rs.length c3, .slice a4 ls.length c4] 27)
  have kx := Blk.new w 27 #[.string id, .int .i64 o, .slice a1 cs.length c1, .string pr, .int .i64 st, .slice a2 mv.length c2, .slice a3 rs.length c3, .slice a4 ls.length c4]
  have HR := Lib.hid hR
  have HCS := Lib.hid (hcs.below (hb.mono hB))
  have HMV := Lib.hid (hmv.below (hb.mono hB))
  have HRS := Lib.hid hrs
  have HLS := Lib.hid hls
  have HLV := Lib.hid hlv
  have HRN := Lib.hid hrn
  have HLL := Lib.hid hll
  have HBB := Lib.hid hB
  have HB := Lib.hid hb
  have KX := Lib.hid kx
  clear hR hcs hmv hrs hls hlv hrn hll hB
  obtain ⟨t0, t1, t2⟩ := kx.all
  go_enter Tryz.func36, Tryz.ntmps36
  go_upto_region 1 with fail
  generalize w.alloc (.cells #[.string id, .int .i64 o, .slice a1 cs.length c1, .string pr, .int .i64 st, .slice a2 mv.length c2, .slice a3 rs.length c3, .slice a4 ls.length c4] 27) = W at *
  clear hb kx
  have nm := rname07_any W id hid
  cases hc0 : nameB id with
  | false =>
    have hx : nmB id.data.toList = false := hc0
    rw [hx] at nm
    obtain rfl : R = false := fm_false HR.out fun e => by have h := (fmB_iff.1 e).1; rw [hc0] at h; cases h
    have NM := Lib.hid nm
    clear nm hc0 hx
    go_wp2_with fail
    refine NM.out.mono ?_
    rintro e w3 ⟨rfl, rfl⟩
    clear NM
    go_wp2
    go_ret
    exact ⟨rfl, HB.out⟩
  | true =>
    have hx : nmB id.data.toList = true := hc0
    rw [hx] at nm
    have NM := Lib.hid nm
    have HC0 := Lib.hid hc0
    clear nm hc0 hx
    go_wp2_with fail
    refine NM.out.mono ?_
    rintro e w3 ⟨rfl, rfl⟩
    clear NM
    have nm := rname07_any W pr hpr
    cases hc1 : nameB pr with
    | false =>
      have hx : nmB pr.data.toList = false := hc1
      rw [hx] at nm
      obtain rfl : R = false := fm_false HR.out fun e => by have h := (fmB_iff.1 e).2.1; rw [hc1] at h; cases h
      have NM := Lib.hid nm
      clear nm hc1 hx
      go_wp2_with fail
      refine NM.out.mono ?_
      rintro e w3 ⟨rfl, rfl⟩
      clear NM
      go_wp2
      go_ret
      exact ⟨rfl, HB.out⟩
    | true =>
      have hx : nmB pr.data.toList = true := hc1
      rw [hx] at nm
      have NM := Lib.hid nm
      have HC1 := Lib.hid hc1
      clear nm hc1 hx
      go_wp2_with fail
      refine NM.out.mono ?_
      rintro e w3 ⟨rfl, rfl⟩
      clear NM
      have nm := rDay_any W o
      cases hc2 : isB o with
      | false =>
        have hx : isB o = false := hc2
        rw [hx] at nm
        obtain rfl : R = false := fm_false HR.out fun e => by have h := (fmB_iff.1 e).2.2.1; rw [hc2] at h; cases h
        have NM := Lib.hid nm
        clear nm hc2 hx
        go_wp2_with fail
        refine NM.out.mono ?_
        rintro e w3 ⟨rfl, rfl⟩
        clear NM
        go_wp2
        go_ret
        exact ⟨rfl, HB.out⟩
      | true =>
        have hx : isB o = true := hc2
        rw [hx] at nm
        have NM := Lib.hid nm
        have HC2 := Lib.hid hc2
        clear nm hc2 hx
        go_wp2_with fail
        refine NM.out.mono ?_
        rintro e w3 ⟨rfl, rfl⟩
        clear NM
        by_cases hc3 : 0 ≤ st
        case neg =>
          have dd : decide (st < 0) = true := decide_eq_true (by omega)
          obtain rfl : R = false := fm_false HR.out fun e => hc3 (fmB_iff.1 e).2.2.2.1.1
          go_wp2
          go_ret
          exact ⟨rfl, HB.out⟩
        have dd3 : decide (st < 0) = false := decide_eq_false (by omega)
        by_cases hc4 : st < 60
        case neg =>
          have dd : decide (60 ≤ st) = true := decide_eq_true (by omega)
          obtain rfl : R = false := fm_false HR.out fun e => hc4 (fmB_iff.1 e).2.2.2.1.2
          go_wp2
          go_ret
          exact ⟨rfl, HB.out⟩
        have dd4 : decide (60 ≤ st) = false := decide_eq_false (by omega)
        by_cases hc5 : cs.length ≤ 60
        case neg =>
          have dd : decide ((60 : Int) < (cs.length : Int)) = true := decide_eq_true (by omega)
          obtain rfl : R = false := fm_false HR.out fun e => hc5 (fmB_iff.1 e).2.2.2.2.2.1
          go_wp2
          go_ret
          exact ⟨rfl, HB.out⟩
        have dd5 : decide ((60 : Int) < (cs.length : Int)) = false := decide_eq_false (by omega)
        by_cases hc6 : mv.length ≤ 60
        case neg =>
          have dd : decide ((60 : Int) < (mv.length : Int)) = true := decide_eq_true (by omega)
          obtain rfl : R = false := fm_false HR.out fun e => hc6 (fmB_iff.1 e).2.2.2.2.2.2.2.1
          go_wp2
          go_ret
          exact ⟨rfl, HB.out⟩
        have dd6 : decide ((60 : Int) < (mv.length : Int)) = false := decide_eq_false (by omega)
        by_cases hc7 : rs.length ≤ 60
        case neg =>
          have dd : decide ((60 : Int) < (rs.length : Int)) = true := decide_eq_true (by omega)
          obtain rfl : R = false := fm_false HR.out fun e => hc7 (difB_iff.1 (fmB_iff.1 e).2.2.2.2.2.2.2.2.1).2.2
          go_wp2
          go_ret
          exact ⟨rfl, HB.out⟩
        have dd7 : decide ((60 : Int) < (rs.length : Int)) = false := decide_eq_false (by omega)
        by_cases hc8 : ls.length ≤ 60
        case neg =>
          have dd : decide ((60 : Int) < (ls.length : Int)) = true := decide_eq_true (by omega)
          obtain rfl : R = false := fm_false HR.out fun e => hc8 (difB_iff.1 (fmB_iff.1 e).2.2.2.2.2.2.2.2.2).2.2
          go_wp2
          go_ret
          exact ⟨rfl, HB.out⟩
        have dd8 : decide ((60 : Int) < (ls.length : Int)) = false := decide_eq_false (by omega)
        go_wp2_with fail
        clear dd3 dd4 dd5 dd6 dd7 dd8
        go_loop [3] (fun i => ∃ k : Nat, k ≤ cs.length ∧ i = .int .i64 (k : Int) ∧ Hid ((cs.take k).all isB = true)) (fun i => cs.length - (intOf i).toNat)
        case atStart => exact ⟨0, Nat.zero_le _, rfl, Lib.hid rfl⟩
        case round =>
          obtain ⟨k, hk, rfl, HT⟩ := hrel
          by_cases hlt : k < cs.length
          · obtain ⟨n, hn⟩ : ∃ n, cs[k]? = some n := ⟨_, List.getElem?_eq_getElem hlt⟩
            obtain ⟨g, off, hA, hg, p0⟩ := HCS.out k n hn
            subst hA
            have ib0 : (0 : Int) ≤ (k : Int) := by omega
            have ib1 : (k : Int) < (cs.length : Int) := by omega
            have HN := Lib.hid hn
            clear hn
            cases hi : isB n with
            | true =>
              have HT2 : Hid ((cs.take (k + 1)).all isB = true) := Lib.hid (by rw [all_is HN.out, HT.out, hi]; rfl)
              have hi' := (isB_iff n).1 hi
              have e1 : decide (n < 0) = false := decide_eq_false (by omega)
              have e2 : decide (1000000 < n) = false := decide_eq_false (by omega)
              have h0n : ¬ n < 0 := by omega
              have h1n : ¬ 1000000 < n := by omega
              clear hi hi'
              go_wp2_with fail
              go_round
              case rel => exact ⟨k + 1, by omega, by go_num, HT2⟩
              case measure => simp [intOf]; omega
            | false =>
              obtain rfl : R = false := fm_false HR.out fun e => by have h := (fmB_iff.1 e).2.2.2.2.1 n (List.mem_of_getElem? HN.out); rw [hi] at h; cases h
              have hi' : n < 0 ∨ 1000000 < n := by
                rcases Int.lt_or_le n 0 with h | h
                · exact .inl h
                · rcases Int.lt_or_le 1000000 n with h2 | h2
                  · exact .inr h2
                  · rw [(isB_iff n).2 ⟨h, h2⟩] at hi; cases hi
              clear hi
              rcases hi' with hi' | hi'
              · have e1 : decide (n < 0) = true := decide_eq_true hi'
                go_wp2_with fail
                go_ret
                exact ⟨rfl, HB.out⟩
              · have e1 : decide (n < 0) = false := decide_eq_false (by omega)
                have e2 : decide (1000000 < n) = true := decide_eq_true hi'
                go_wp2_with fail
                go_ret
                exact ⟨rfl, HB.out⟩
          · obtain rfl : k = cs.length := by omega
            have HCA : Hid (∀ x ∈ cs, isB x = true) := Lib.hid (by have := HT.out; rw [List.take_length] at this; exact List.all_eq_true.1 this)
            clear HT
            go_wp2_with fail
            go_loop [4, 5] (fun v i => ∃ k : Nat, k ≤ mv.length ∧ i = .int .i64 (k : Int) ∧ v = .int .i64 (lastI o (mv.take k)) ∧ Hid (upB o (mv.take k) = true)) (fun _ i => mv.length - (intOf i).toNat)
            case atStart => exact ⟨0, Nat.zero_le _, rfl, rfl, Lib.hid rfl⟩
            case round =>
              obtain ⟨k, hk, rfl, rfl, HT⟩ := hrel
              obtain ⟨la, hla⟩ : ∃ la, lastI o (mv.take k) = la := ⟨_, rfl⟩
              rw [hla]
              by_cases hlt : k < mv.length
              · obtain ⟨d, hd⟩ : ∃ n, mv[k]? = some n := ⟨_, List.getElem?_eq_getElem hlt⟩
                obtain ⟨g, off, hA, hg, p0⟩ := HMV.out k d hd
                subst hA
                have ib0 : (0 : Int) ≤ (k : Int) := by omega
                have ib1 : (k : Int) < (mv.length : Int) := by omega
                have HD := Lib.hid hd
                have HLA := Lib.hid hla
                clear hd hla
                by_cases h1 : la ≤ d
                · have e1 : decide (d < la) = false := decide_eq_false (by omega)
                  have h1' : ¬ d < la := by omega
                  by_cases h2 : d ≤ 1000000
                  · have e2 : decide (1000000 < d) = false := decide_eq_false (by omega)
                    have h2' : ¬ 1000000 < d := by omega
                    have HT2 : Hid (upB o (mv.take (k + 1)) = true) := Lib.hid (by rw [upB_at HD.out, HT.out, HLA.out, decide_eq_true ⟨h1, h2⟩]; rfl)
                    have HL2 := Lib.hid (lastI_at (a := o) HD.out)
                    go_wp2_with fail
                    go_round
                    case rel => exact ⟨k + 1, by omega, by go_num, by rw [HL2.out], HT2⟩
                    case measure => simp [intOf]; omega
                  · have e2 : decide (1000000 < d) = true := decide_eq_true (by omega)
                    obtain rfl : R = false := fm_false HR.out fun e => by have h := (fmB_iff.1 e).2.2.2.2.2.2.1; rw [upB_no HD.out (by rw [HLA.out]; exact fun h => h2 h.2)] at h; cases h
                    go_wp2_with fail
                    go_ret
                    exact ⟨rfl, HB.out⟩
                · have e1 : decide (d < la) = true := decide_eq_true (by omega)
                  have h1' : d < la := by omega
                  obtain rfl : R = false := fm_false HR.out fun e => by have h := (fmB_iff.1 e).2.2.2.2.2.2.1; rw [upB_no HD.out (by rw [HLA.out]; exact fun h => h1 h.1)] at h; cases h
                  go_wp2_with fail
                  go_ret
                  exact ⟨rfl, HB.out⟩
              · obtain rfl : k = mv.length := by omega
                have HMA : Hid (upB o mv = true) := Lib.hid (by have := HT.out; rwa [List.take_length] at this)
                clear HT hla
                go_wp2_with fail
                go_loopw [6] (fun i wr => ∃ k : Nat, k ≤ rs.length ∧ i = .int .i64 (k : Int) ∧ Hid (difTo (fun x : Rt => x.1) (rtB o) rs k) ∧ Hid (Blk wr w.heap.size 27 #[.string id, .int .i64 o, .slice a1 cs.length c1, .string pr, .int .i64 st, .slice a2 mv.length c2, .slice a3 rs.length c3, .slice a4 ls.length c4]) ∧ Hid (Below w.heap.size w wr)) (fun i _ => rs.length - (intOf i).toNat)
                case atStart => exact ⟨0, Nat.zero_le _, rfl, Lib.hid difTo_zero, KX, HB⟩
                case round =>
                  clear t0 t1 t2
                  obtain ⟨k, hk, rfl, HT, K3, HB3⟩ := hrel
                  obtain ⟨t0, t1, t2⟩ := K3.out.all
                  by_cases hlt : k < rs.length
                  · obtain ⟨x, hx⟩ : ∃ n, rs[k]? = some n := ⟨_, List.getElem?_eq_getElem hlt⟩
                    obtain ⟨g, off, hA, hg, p0, p1⟩ := (HRS.out.below (HB3.out.mono HBB.out)) k x hx
                    have hrt : RtsAt wr B a3 (rs.take k) := fun i y hi => (HRS.out.below (HB3.out.mono HBB.out)) i y (by
                      have hik : i < k := by have := (List.getElem?_eq_some_iff.1 hi).1; rw [List.length_take] at this; omega
                      rw [List.getElem?_take, if_pos hik] at hi
                      exact hi)
                    have hlk : (rs.take k).length = k := by rw [List.length_take]; omega
                    have hszn := HRN.out x (List.mem_of_getElem? hx)
                    obtain ⟨nm, d⟩ := x
                    simp only at p0 p1 hszn
                    subst hA
                    have ib0 : (0 : Int) ≤ (k : Int) := by omega
                    have ib1 : (k : Int) < (rs.length : Int) := by omega
                    have HX := Lib.hid hx
                    have HRT := Lib.hid hrt
                    have HLK := Lib.hid hlk
                    clear hx hrt hlk
                    have hb4 := HB3.out.alloc HB3.out.size (.cells #[.string nm, .int .i64 d] 41)
                    have k4 := K3.out.alloc (.cells #[.string nm, .int .i64 d] 41)
                    have kn := Blk.new wr 41 #[.string nm, .int .i64 d]
                    have hrt4 := HRT.out.below ((below_self_alloc wr (.cells #[.string nm, .int .i64 d] 41)).mono (Nat.le_trans HBB.out HB3.out.size))
                    go_upto_region 19 with fail
                    clear t0 t1 t2 p0 p1
                    generalize wr.alloc (.cells #[.string nm, .int .i64 d] 41) = W4 at *
                    generalize wr.heap.size = gx at *
                    have HB4 := Lib.hid hb4
                    have K4 := Lib.hid k4
                    have KN := Lib.hid kn
                    have HRT4 := Lib.hid hrt4
                    clear hb4 k4 kn hrt4
                    obtain ⟨t0, t1, t2⟩ := K4.out.all
                    obtain ⟨u0, u1, u2⟩ := KN.out.all
                    have hnm : ∀ n, Calls Tryz.prog 58 #[.string nm] (W4.drewN n) fun e w'' => e = .returned (.bool (nameB nm)) ∧ ∃ m, w'' = W4.drewN m := fun n => (rname07_any (W4.drewN n) nm hszn).mono fun _ _ ⟨h1, h2⟩ => ⟨h1, n, h2.symm⟩
                    cases hn : nameB nm with
                    | false =>
                      rw [hn] at hnm
                      have HNM := Lib.hid hnm
                      obtain rfl : R = false := fm_false HR.out fun e => by have h := (fmB_iff.1 e).2.2.2.2.2.2.2.2.1; rw [difB_bad HX.out (by unfold rtB; rw [hn]; rfl)] at h; cases h
                      clear hnm hn
                      go_quiet ((go_at_call 58; exact HNM.out _))
                      go_wp2
                      go_ret
                      exact ⟨rfl, below_dN HB4.out nq⟩
                    | true =>
                      rw [hn] at hnm
                      have HNM := Lib.hid hnm
                      have HN1 := Lib.hid hn
                      clear hnm hn
                      by_cases h1 : o ≤ d
                      case neg =>
                        have e1 : decide (d < o) = true := decide_eq_true (by omega)
                        have h1' : d < o := by omega
                        obtain rfl : R = false := fm_false HR.out fun e => by have h := (fmB_iff.1 e).2.2.2.2.2.2.2.2.1; rw [difB_bad HX.out (by unfold rtB; rw [decide_eq_false h1, Bool.false_and, Bool.and_false])] at h; cases h
                        go_quiet ((go_at_call 58; exact HNM.out _))
                        go_wp2
                        go_ret
                        exact ⟨rfl, below_dN HB4.out nq⟩
                      have e1 : decide (d < o) = false := decide_eq_false (by omega)
                      have h1' : ¬ d < o := by omega
                      by_cases h2 : d ≤ 1000000
                      case neg =>
                        have e2 : decide (1000000 < d) = true := decide_eq_true (by omega)
                        have h2' : 1000000 < d := by omega
                        obtain rfl : R = false := fm_false HR.out fun e => by have h := (fmB_iff.1 e).2.2.2.2.2.2.2.2.1; rw [difB_bad HX.out (by unfold rtB; rw [isB_no (.inr (by omega)), Bool.and_false, Bool.and_false])] at h; cases h
                        go_quiet ((go_at_call 58; exact HNM.out _))
                        go_wp2
                        go_ret
                        exact ⟨rfl, below_dN HB4.out nq⟩
                      have e2 : decide (1000000 < d) = false := decide_eq_false (by omega)
                      have h2' : ¬ 1000000 < d := by omega
                      have hsl := fun W => slice_to (P := Tryz.prog) 24 41 2 Tryz.underlying24 (by kernel_rfl) (some ⟨g, off, none⟩) rs.length c3 k (by omega) W
                      obtain ⟨q, hq⟩ : ∃ q : Bool, q = true ↔ nm ∈ (rs.take k).map (fun x : Rt => x.1) := by
                        by_cases h : nm ∈ (rs.take k).map (fun x : Rt => x.1)
                        · exact ⟨true, by simp only [h]⟩
                        · exact ⟨false, by simp only [h]; decide⟩
                      have hri : ∀ n, Calls Tryz.prog 59 #[.slice (some ⟨g, off, none⟩) k c3, .string nm] (W4.drewN n) fun e w'' => e = .returned (.bool q) ∧ ∃ m, w'' = W4.drewN m := fun n => by
                        have h := rright_any (W4.drewN n) B (some ⟨g, off, none⟩) (rs.take k) c3 (HRT4.out.below (below_dN (Below.refl _ _) n)) (by rw [HLK.out]; omega) nm q hq
                        rw [HLK.out] at h
                        exact h.mono fun _ _ ⟨h1, h2⟩ => ⟨h1, n, h2.symm⟩
                      have HRI := Lib.hid hri
                      have HQ := Lib.hid hq
                      clear hri hq
                      go_quiet (first | (go_at_call 58; exact HNM.out _) | (go_at_call 59; exact HRI.out _))
                      cases q with
                      | true =>
                        obtain rfl : R = false := fm_false HR.out fun e => by have h := (fmB_iff.1 e).2.2.2.2.2.2.2.2.1; rw [difB_twice HX.out (HQ.out.1 rfl)] at h; cases h
                        go_wp2
                        go_ret
                        exact ⟨rfl, below_dN HB4.out nq⟩
                      | false =>
                        have HT2 : Hid (difTo (fun x : Rt => x.1) (rtB o) rs (k + 1)) := Lib.hid (difTo_next HT.out HX.out (by
                          have ho := (isB_iff o).1 HC2.out
                          unfold rtB
                          rw [HN1.out, decide_eq_true h1, (isB_iff d).2 (by omega)]
                          rfl) (fun h => by have := HQ.out.2 h; cases this))
                        have HBN := Lib.hid (below_dN HB4.out nq)
                        have KXN := Lib.hid (K4.out.drewN nq)
                        clear t0 t1 t2 u0 u1 u2 HRT4 HRT
                        go_wp2
                        go_roundw
                        case rel => exact ⟨k + 1, by omega, by go_num, HT2, KXN, HBN⟩
                        case measure => simp [intOf]; omega
                  · obtain rfl : k = rs.length := by omega
                    have HD1 : Hid (difB (fun x : Rt => x.1) (rtB o) rs = true) := Lib.hid (by rw [difB_end HT.out]; exact decide_eq_true (by omega))
                    clear HT
                    obtain ⟨Wr, rfl⟩ : ∃ q, q = wr := ⟨wr, rfl⟩
                    go_wp2_with fail
                    go_loopw [8] (fun i wr => ∃ k : Nat, k ≤ ls.length ∧ i = .int .i64 (k : Int) ∧ Hid (difTo (fun x : Lm => x.id) prB ls k) ∧ Hid (Blk wr w.heap.size 27 #[.string id, .int .i64 o, .slice a1 cs.length c1, .string pr, .int .i64 st, .slice a2 mv.length c2, .slice a3 rs.length c3, .slice a4 ls.length c4]) ∧ Hid (Below w.heap.size w wr)) (fun i _ => ls.length - (intOf i).toNat)
                    case atStart => exact ⟨0, Nat.zero_le _, rfl, Lib.hid difTo_zero, K3, HB3⟩
                    case round =>
                      clear t0 t1 t2 K3 HB3
                      obtain ⟨k, hk, rfl, HT, K5, HB5⟩ := hrel
                      obtain ⟨t0, t1, t2⟩ := K5.out.all
                      by_cases hlt : k < ls.length
                      · obtain ⟨y, hy⟩ : ∃ n, lv[k]? = some n := ⟨_, List.getElem?_eq_getElem (by rw [HLL.out]; exact hlt)⟩
                        have hx : ls[k]? = some y.1 := by rw [← HLV.out, List.getElem?_map, hy]; rfl
                        obtain ⟨g, off, hA, hg, p0, p1, p2, p3, p4, hat⟩ := (HLS.out.below (HB5.out.mono HBB.out)) k y hy
                        obtain ⟨⟨lid, ln, lu, lf, S⟩, A5, c5⟩ := y
                        simp only at p0 p1 p2 p3 p4 hat hx
                        subst hA
                        have ib0 : (0 : Int) ≤ (k : Int) := by omega
                        have ib1 : (k : Int) < (ls.length : Int) := by omega
                        have HX := Lib.hid hx
                        have HY := Lib.hid hy
                        clear hx hy
                        have hpr : Calls Tryz.prog 81 #[.agg #[.string lid, .int .i64 ln, .int .i64 lu, .int .i64 lf, .slice A5 S.length c5]] wr _ := rProper_any wr ⟨lid, ln, lu, lf, S⟩ B A5 c5 hat (Nat.le_trans HBB.out HB5.out.size)
                        cases hp : prB ⟨lid, ln, lu, lf, S⟩ with
                        | false =>
                          rw [hp] at hpr
                          have HPR := Lib.hid hpr
                          obtain rfl : R = false := fm_false HR.out fun e => by have h := (fmB_iff.1 e).2.2.2.2.2.2.2.2.2; rw [difB_bad HX.out hp] at h; cases h
                          clear hpr hp hat
                          go_wp2_with fail
                          refine HPR.out.mono ?_
                          rintro e w6 ⟨rfl, b6⟩
                          have hb6 := HB5.out.trans (b6.mono HB5.out.size)
                          clear b6 t0 t1 t2 p0 p1 p2 p3 p4
                          go_wp2
                          go_ret
                          exact ⟨rfl, hb6⟩
                        | true =>
                          rw [hp] at hpr
                          have HPR := Lib.hid hpr
                          have HP1 := Lib.hid hp
                          clear hpr hp hat
                          go_wp2_with fail
                          refine HPR.out.mono ?_
                          rintro e w6 ⟨rfl, b6⟩
                          have HB6 := Lib.hid (HB5.out.trans (b6.mono HB5.out.size))
                          have K6 := Lib.hid (K5.out.below b6 K5.out.lt)
                          clear b6 t0 t1 t2 p0 p1 p2 p3 p4 HPR K5 HB5
                          go_wp2_with fail
                          go_loopw [9] (fun i wi => ∃ j : Nat, j ≤ k ∧ i = .int .i64 (j : Int) ∧ Hid (lid ∉ (ls.take j).map (fun x : Lm => x.id)) ∧ ∃ q, wi = w6.drewN q) (fun i _ => k - (intOf i).toNat)
                          case atStart => exact ⟨0, Nat.zero_le _, rfl, Lib.hid (by simp), 0, rfl⟩
                          case round =>
                            obtain ⟨j, hj, rfl, HI, q, rfl⟩ := hrel
                            have hbq := below_dN HB6.out q
                            have hkq := K6.out.drewN q
                            obtain ⟨t0, t1, t2⟩ := hkq.all
                            by_cases hjk : j < k
                            · obtain ⟨z, hz⟩ : ∃ n, lv[j]? = some n := ⟨_, List.getElem?_eq_getElem (by rw [HLL.out]; omega)⟩
                              have hzx : ls[j]? = some z.1 := by rw [← HLV.out, List.getElem?_map, hz]; rfl
                              obtain ⟨g2, off2, hA2, hg2, q0, -⟩ := (HLS.out.below (hbq.mono HBB.out)) j z hz
                              obtain ⟨g3, off3, hA3, hg3, q1, -⟩ := (HLS.out.below (hbq.mono HBB.out)) k _ HY.out
                              injection hA2 with hA2
                              injection hA2 with r1 r2 r3
                              subst r1 r2
                              injection hA3 with hA3
                              injection hA3 with r1 r2 r3
                              subst r1 r2
                              obtain ⟨⟨zid, zn, zu, zf, Sz⟩, A6, c6⟩ := z
                              simp only at q0 q1 hzx
                              have jb0 : (0 : Int) ≤ (j : Int) := by omega
                              have jb1 : (j : Int) < (ls.length : Int) := by omega
                              have HZX := Lib.hid hzx
                              clear hz hzx hbq hkq
                              by_cases hid2 : zid = lid
                              · subst hid2
                                obtain rfl : R = false := fm_false HR.out fun e => by
                                  have h := (fmB_iff.1 e).2.2.2.2.2.2.2.2.2
                                  rw [difB_twice HX.out (List.mem_map.2 ⟨⟨zid, zn, zu, zf, Sz⟩, List.mem_of_getElem? (by rw [List.getElem?_take, if_pos hjk]; exact HZX.out), rfl⟩)] at h
                                  cases h
                                go_wp2_with fail
                                generalize hW : w6.drewN q = W at *
                                go_quiet (fail)
                                subst hW
                                go_wp2
                                go_ret
                                exact ⟨rfl, below_dN (below_dN HB6.out q) nq⟩
                              · have HI2 : Hid (lid ∉ (ls.take (j + 1)).map (fun x : Lm => x.id)) := Lib.hid (by
                                  rw [take_snoc' HZX.out, List.map_append, List.mem_append]
                                  rintro (h | h)
                                  · exact HI.out h
                                  · simp at h; exact hid2 h.symm)
                                have e3 := str_no hid2
                                clear hid2
                                go_wp2_with fail
                                generalize hW : w6.drewN q = W at *
                                go_quiet (fail)
                                subst hW
                                clear t0 t1 t2 q0 q1
                                go_wp2
                                go_roundw
                                case rel => exact ⟨j + 1, by omega, by go_num, HI2, q + nq, rfl⟩
                                case measure => simp [intOf]; omega
                            · obtain rfl : j = k := by omega
                              have HT2 : Hid (difTo (fun x : Lm => x.id) prB ls (j + 1)) := Lib.hid (difTo_next HT.out HX.out HP1.out HI.out)
                              have HBQ := Lib.hid hbq
                              have KQ := Lib.hid hkq
                              clear hbq hkq t0 t1 t2
                              go_wp2
                              go_roundw
                              case rel => exact ⟨j + 1, by omega, by go_num, HT2, KQ, HBQ⟩
                              case measure => simp [intOf]; omega
                      · obtain rfl : k = ls.length := by omega
                        have hfin : R = true := by
                          rw [← HR.out]
                          exact fmB_iff.2 ⟨HC0.out, HC1.out, HC2.out, ⟨hc3, hc4⟩, HCA.out, hc5, HMA.out, hc6, HD1.out, by rw [difB_end HT.out]; exact decide_eq_true (by omega)⟩
                        subst hfin
                        go_wp2
                        go_ret
                        exact ⟨rfl, HB5.out⟩
end Go.Proofs.YtgfahifdmacmhaaGreatDoor

namespace Go.Proofs.YtgfahifdmacmhaaGreatDoor
open Go.RowKit Go.ChangeShapes Go.WideShapes Go.Deep

section
variable {H : Type} {enc : TypeId × Value → H} {w : World} {base : Nat} {spare : Nat → Bool} {held : Bool} {fuel len cap : Nat} {A : Option Addr} {x : DataW H × List MemPlace}
set_option maxRecDepth 100000 in
theorem moves_trod (hf : DataW.trod enc Tryz.prog w base spare held fuel 44 [.slice A len cap] = some x) : ∃ S : List I2, S.length = len ∧ StopsAt w w.heap.size A S ∧ len ≤ 9223372036854775807 := by
  have hlen := slice_len Tryz.underlying44 hf
  have hs := slice_elems Tryz.underlying44 (k := 2) (by kernel_rfl) (by decide) hf
  obtain ⟨l, hl, hp⟩ := list_of (p := fun i (s : I2) => ∃ g off, A = some ⟨g, off, none⟩ ∧ g < w.heap.size ∧ w.cell? ⟨g, off + i * 2, none⟩ = some (.int .i64 s.1) ∧ w.cell? ⟨g, off + i * 2 + 1, none⟩ = some (.int .i64 s.2)) len (fun i hi => by
    obtain ⟨g, off, n, vs, y, hA, hg, hvl, hc, ht'⟩ := hs i hi
    match vs, hvl with
    | [v0, v1], _ =>
      obtain ⟨xs, n, _, hx, hl, hlen, hfl⟩ := DataW.trod_array Tryz.underlying101 ht'
      have c1 : Tryz.prog.cellsOf 3 = 1 := by kernel_rfl
      have gg : ∀ i, i < xs.length → ∃ y, xs[i]? = some y := fun i hi => ⟨_, List.getElem?_eq_getElem hi⟩
      obtain ⟨y0, e0⟩ := gg 0 (by omega)
      obtain ⟨y1, e1⟩ := gg 1 (by omega)
      have t0 := (hfl 0 (by decide)).trans e0
      have t1 := (hfl 1 (by decide)).trans e1
      rw [c1] at t0 t1
      obtain ⟨s, h0, _, _⟩ := DataW.trod_int Tryz.underlying3 t0
      obtain ⟨d, h1, _, _⟩ := DataW.trod_int Tryz.underlying3 t1
      have q0 : v0 = .int .i64 s := by simpa using h0
      have q1 : v1 = .int .i64 d := by simpa using h1
      subst q0 q1
      exact ⟨(s, d), g, off, hA, hg, hc 0 _ rfl, hc 1 _ rfl⟩)
  exact ⟨l, hl, hp, hlen⟩
/-- What a procedure at an argument gives. -/
def PcIn (w : World) (z : Pc × PcX) : Prop := PcAt w w.heap.size z.1 z.2 ∧ z.1.ss.length ≤ 9223372036854775807 ∧ z.1.ms.length ≤ 9223372036854775807
set_option maxRecDepth 100000 in
theorem procedure_at {v : Value} {d : DataW H} {p : List MemPlace} {cs : Array Value} (hv : v = .agg cs) (hsz : cs.size = Tryz.prog.cellsOf 46)
    (h : DataW.Trod enc Tryz.prog w base spare held 46 v d p) : ∃ z : Pc × PcX, v = .agg (pcC z.1 z.2) ∧ PcIn w z := by
  subst hv
  have h2 : Tryz.prog.cellsOf 46 = 3 := by kernel_rfl
  rw [h2] at hsz
  obtain ⟨fuel, hf⟩ := h
  have hc : (Value.agg cs).cells.toList = cs.toList := rfl
  rw [hc] at hf
  obtain ⟨c0, c1, c2, hcs⟩ : ∃ c0 c1 c2, cs = #[c0, c1, c2] := by
    obtain ⟨l⟩ := cs
    match l, hsz with
    | [c0, c1, c2], _ => exact ⟨c0, c1, c2, rfl⟩
  subst hcs
  obtain ⟨xs, n, _, hx, hl, hlen, hfl⟩ := DataW.trod_struct Tryz.underlying46 hf
  have g : ∀ i, i < xs.length → ∃ y, xs[i]? = some y := fun i hi => ⟨_, List.getElem?_eq_getElem hi⟩
  have hlen2 : xs.length = 3 := hlen
  obtain ⟨y0, e0⟩ := g 0 (by omega)
  obtain ⟨y1, e1⟩ := g 1 (by omega)
  obtain ⟨y2, e2⟩ := g 2 (by omega)
  obtain ⟨k0, h0, _, w0⟩ := DataW.trod_string Tryz.underlying9 ((hfl 0 _ rfl).trans e0)
  have t1 : DataW.trod enc Tryz.prog w base spare held n 43 [c1] = some y1 := (hfl 1 _ rfl).trans e1
  have t2 : DataW.trod enc Tryz.prog w base spare held n 44 [c2] = some y2 := (hfl 2 _ rfl).trans e2
  obtain ⟨A1, l1, q1, rfl⟩ := slice_form Tryz.underlying43 t1
  obtain ⟨A2, l2, q2, rfl⟩ := slice_form Tryz.underlying44 t2
  have r0 : c0 = .string k0 := by injection h0
  subst r0
  obtain ⟨ss, hss, b1, n1, m1⟩ := strs_trod Tryz.underlying43 t1
  obtain ⟨ms, hms, b2, m2⟩ := moves_trod t2
  subst hss hms
  exact ⟨(⟨k0, ss, ms⟩, ⟨A1, q1, A2, q2⟩), rfl, ⟨b1, b2, w0, n1⟩, m1, m2⟩
end
end Go.Proofs.YtgfahifdmacmhaaGreatDoor

namespace Go.Proofs.YtgfahifdmacmhaaGreatDoor
open Go.RowKit Go.Shelf

section
open Go.ChangeShapes Go.WideShapes Go.Deep
variable {H : Type} {enc : TypeId × Value → H} {w : World} {base : Nat} {spare : Nat → Bool} {held : Bool} {fuel len cap : Nat} {A : Option Addr} {x : DataW H × List MemPlace}
/-- .. with room for what is there. -/
def PcIn2 (w : World) (z : Pc × PcX) : Prop := PcIn w z ∧ z.1.ss.length ≤ z.2.c1
set_option maxRecDepth 100000 in
theorem procedure_at2 {v : Value} {d : DataW H} {p : List MemPlace} {cs : Array Value} (hv : v = .agg cs) (hsz : cs.size = Tryz.prog.cellsOf 46)
    (h : DataW.Trod enc Tryz.prog w base spare held 46 v d p) : ∃ z : Pc × PcX, v = .agg (pcC z.1 z.2) ∧ PcIn2 w z := by
  obtain ⟨z, hz, hin⟩ := procedure_at hv hsz h
  refine ⟨z, hz, hin, ?_⟩
  subst hz
  obtain ⟨fuel, hf⟩ := h
  obtain ⟨xs, n, _, hx, hl, hlen, hfl⟩ := DataW.trod_struct Tryz.underlying46 hf
  have hlen2 : xs.length = 3 := hlen
  obtain ⟨y1, e1⟩ : ∃ y, xs[1]? = some y := ⟨_, List.getElem?_eq_getElem (by omega)⟩
  have t1 : DataW.trod enc Tryz.prog w base spare held n 43 [.slice z.2.a1 z.1.ss.length z.2.c1] = some y1 := (hfl 1 _ rfl).trans e1
  exact slice_cap Tryz.underlying43 t1
end
theorem pc_false {p : Pc} {R : Bool} (h : pcB p = R) (hn : ¬ pcB p = true) : R = false := by
  rw [← h]
  simpa using hn
theorem pcB_iff {p : Pc} : pcB p = true ↔ nameB p.name = true ∧ 0 < p.ss.length ∧ difB id nameB p.ss = true ∧ difB id (mvB p.ss.length) p.ms = true := by
  unfold pcB
  simp only [Bool.and_eq_true, decide_eq_true_eq]
theorem mvB_iff {n : Nat} {m : I2} : mvB n m = true ↔ 0 ≤ m.1 ∧ m.1 < (n : Int) ∧ 0 ≤ m.2 ∧ m.2 < (n : Int) ∧ m.1 ≠ m.2 := by
  unfold mvB
  rw [decide_eq_true_eq]
  constructor
  · rintro ⟨h1, h2, h3⟩
    exact ⟨by omega, by omega, by omega, by omega, h1⟩
  · rintro ⟨h1, h2, h3, h4, h5⟩
    exact ⟨h5, by omega, by omega⟩
theorem map_id_ {α : Type} (l : List α) : l.map id = l := by simp
set_option maxRecDepth 100000 in
set_option maxHeartbeats 8000000 in
theorem rproper_any (w : World) (B : Nat) (p : Pc) (x : PcX) (h : PcAt w B p x) (hB : B ≤ w.heap.size) (hs : SmlP p) (hcap : p.ss.length ≤ x.c1) :
    Calls Tryz.prog 24 #[.agg (pcC p x)] w fun e w' => e = .returned (.bool (pcB p)) ∧ Below w.heap.size w w' := by
  obtain ⟨R, hR⟩ : ∃ R, pcB p = R := ⟨_, rfl⟩
  rw [hR]
  obtain ⟨hss, hms, hnm, hsn⟩ := h
  obtain ⟨s1, s2⟩ := hs
  obtain ⟨name, ss, ms⟩ := p
  obtain ⟨a1, c1, a2, c2⟩ := x
  simp only at *
  show Calls Tryz.prog 24 #[.agg #[.string name, .slice a1 ss.length c1, .slice a2 ms.length c2]] w _
  have hb := below_self_alloc w (.cells #[.string name, .slice a1 ss.length c1, .slice a2 ms.length c2] 46)
  have kx := Blk.new w 46 #[.string name, .slice a1 ss.length c1, .slice a2 ms.length c2]
  have HR := Lib.hid hR
  have HSS := Lib.hid hss
  have HMS := Lib.hid hms
  have HSN := Lib.hid hsn
  have HBB := Lib.hid hB
  have HB := Lib.hid hb
  have KX := Lib.hid kx
  clear hR hss hms hsn hB
  obtain ⟨t0, t1, t2⟩ := kx.all
  go_enter Tryz.func24, Tryz.ntmps24
  go_upto_region 1 with fail
  generalize w.alloc (.cells #[.string name, .slice a1 ss.length c1, .slice a2 ms.length c2] 46) = W at *
  clear hb kx
  have nm := rname07_any W name hnm
  cases hc0 : nameB name with
  | false =>
    have hx : nmB name.data.toList = false := hc0
    rw [hx] at nm
    obtain rfl : R = false := pc_false HR.out fun e => by have h := (pcB_iff.1 e).1; rw [hc0] at h; cases h
    have NM := Lib.hid nm
    clear nm hc0 hx
    go_wp2_with fail
    refine NM.out.mono ?_
    rintro e w3 ⟨rfl, rfl⟩
    clear NM
    go_wp2
    go_ret
    exact ⟨rfl, HB.out⟩
  | true =>
    have hx : nmB name.data.toList = true := hc0
    rw [hx] at nm
    have NM := Lib.hid nm
    have HC0 := Lib.hid hc0
    clear nm hc0 hx
    go_wp2_with fail
    refine NM.out.mono ?_
    rintro e w3 ⟨rfl, rfl⟩
    clear NM
    by_cases hc1 : 1 ≤ ss.length
    case neg =>
      have dd : decide ((ss.length : Int) < 1) = true := decide_eq_true (by omega)
      obtain rfl : R = false := pc_false HR.out fun e => by have := (pcB_iff.1 e).2.1; simp only at this; omega
      go_wp2
      go_ret
      exact ⟨rfl, HB.out⟩
    have dd1 : decide ((ss.length : Int) < 1) = false := decide_eq_false (by omega)
    by_cases hc2 : ss.length ≤ 60
    case neg =>
      have dd : decide ((60 : Int) < (ss.length : Int)) = true := decide_eq_true (by omega)
      obtain rfl : R = false := pc_false HR.out fun e => by exact hc2 (difB_iff.1 (pcB_iff.1 e).2.2.1).2.2
      go_wp2
      go_ret
      exact ⟨rfl, HB.out⟩
    have dd2 : decide ((60 : Int) < (ss.length : Int)) = false := decide_eq_false (by omega)
    by_cases hc3 : ms.length ≤ 60
    case neg =>
      have dd : decide ((60 : Int) < (ms.length : Int)) = true := decide_eq_true (by omega)
      obtain rfl : R = false := pc_false HR.out fun e => by exact hc3 (difB_iff.1 (pcB_iff.1 e).2.2.2).2.2
      go_wp2
      go_ret
      exact ⟨rfl, HB.out⟩
    have dd3 : decide ((60 : Int) < (ms.length : Int)) = false := decide_eq_false (by omega)
    go_wp2_with fail
    clear dd1 dd2 dd3
    go_loopw [3] (fun i wr => ∃ k : Nat, k ≤ ss.length ∧ i = .int .i64 (k : Int) ∧ Hid (difTo id nameB ss k) ∧ ∃ q, wr = W.drewN q) (fun i _ => ss.length - (intOf i).toNat)
    case atStart => exact ⟨0, Nat.zero_le _, rfl, Lib.hid difTo_zero, 0, rfl⟩
    case round =>
      obtain ⟨k, hk, rfl, HT, q, rfl⟩ := hrel
      have hkq := KX.out.drewN q
      have hbq := below_dN HB.out q
      clear t0 t1 t2
      obtain ⟨t0, t1, t2⟩ := hkq.all
      by_cases hlt : k < ss.length
      · obtain ⟨s, hx⟩ : ∃ n, ss[k]? = some n := ⟨_, List.getElem?_eq_getElem hlt⟩
        obtain ⟨g, off, hA, hg, p0⟩ := (HSS.out.below (hbq.mono HBB.out)) k s hx
        have hrt : BtsAt (W.drewN q) B a1 (ss.take k) := fun i y hi => (HSS.out.below (hbq.mono HBB.out)) i y (by
          have hik : i < k := by have := (List.getElem?_eq_some_iff.1 hi).1; rw [List.length_take] at this; omega
          rw [List.getElem?_take, if_pos hik] at hi
          exact hi)
        have hlk : (ss.take k).length = k := by rw [List.length_take]; omega
        have hszn := HSN.out s (List.mem_of_getElem? hx)
        subst hA
        have ib0 : (0 : Int) ≤ (k : Int) := by omega
        have ib1 : (k : Int) < (ss.length : Int) := by omega
        have HX := Lib.hid hx
        have HRT := Lib.hid hrt
        have HLK := Lib.hid hlk
        have HBQ := Lib.hid hbq
        have KQ := Lib.hid hkq
        clear hx hrt hlk hbq hkq
        go_upto_region 6 with fail
        generalize hWq : W.drewN q = W4 at *
        have hnm2 : ∀ n, Calls Tryz.prog 58 #[.string s] (W4.drewN n) fun e w'' => e = .returned (.bool (nameB s)) ∧ ∃ m, w'' = W4.drewN m := fun n => (rname07_any (W4.drewN n) s hszn).mono fun _ _ ⟨h1, h2⟩ => ⟨h1, n, h2.symm⟩
        cases hn : nameB s with
        | false =>
          rw [hn] at hnm2
          have HNM := Lib.hid hnm2
          obtain rfl : R = false := pc_false HR.out fun e => by have h := (pcB_iff.1 e).2.2.1; rw [difB_bad HX.out hn] at h; cases h
          clear hnm2 hn
          go_quiet ((go_at_call 58; exact HNM.out _))
          go_wp2
          go_ret
          exact ⟨rfl, below_dN HBQ.out nq⟩
        | true =>
          rw [hn] at hnm2
          have HNM := Lib.hid hnm2
          have HN1 := Lib.hid hn
          clear hnm2 hn
          have hsl := fun W => slice_to (P := Tryz.prog) 43 9 1 Tryz.underlying43 (by kernel_rfl) (some ⟨g, off, none⟩) ss.length c1 k (by omega) W
          obtain ⟨b, hq⟩ : ∃ b : Bool, b = true ↔ s ∈ ss.take k := by
            by_cases h : s ∈ ss.take k
            · exact ⟨true, by simp only [h]⟩
            · exact ⟨false, by simp only [h]; decide⟩
          have hri : ∀ n, Calls Tryz.prog 65 #[.slice (some ⟨g, off, none⟩) k c1, .string s] (W4.drewN n) fun e w'' => e = .returned (.bool b) ∧ ∃ m, w'' = W4.drewN m := fun n => by
            have h := rin_any (W4.drewN n) B (some ⟨g, off, none⟩) (ss.take k) c1 (HRT.out.below (below_dN (Below.refl _ _) n)) (by rw [HLK.out]; omega) s b hq
            rw [HLK.out] at h
            exact h.mono fun _ _ ⟨h1, h2⟩ => ⟨h1, n, h2.symm⟩
          have HRI := Lib.hid hri
          have HQ := Lib.hid hq
          clear hri hq
          go_quiet (first | (go_at_call 58; exact HNM.out _) | (go_at_call 65; exact HRI.out _))
          cases b with
          | true =>
            obtain rfl : R = false := pc_false HR.out fun e => by have h := (pcB_iff.1 e).2.2.1; rw [difB_twice (key := id) HX.out (by rw [map_id_]; exact HQ.out.1 rfl)] at h; cases h
            go_wp2
            go_ret
            exact ⟨rfl, below_dN HBQ.out nq⟩
          | false =>
            have HT2 : Hid (difTo id nameB ss (k + 1)) := Lib.hid (difTo_next HT.out HX.out HN1.out (by rw [map_id_]; exact fun h => by have := HQ.out.2 h; cases this))
            subst hWq
            clear t0 t1 t2 HRT
            go_wp2
            go_roundw
            case rel => exact ⟨k + 1, by omega, by go_num, HT2, q + nq, rfl⟩
            case measure => simp [intOf]; omega
      · obtain rfl : k = ss.length := by omega
        have HD1 : Hid (difB id nameB ss = true) := Lib.hid (by rw [difB_end HT.out]; exact decide_eq_true (by omega))
        have HBQ := Lib.hid hbq
        have KQ := Lib.hid hkq
        clear HT hbq hkq
        generalize W.drewN q = W5 at *
        go_wp2_with fail
        go_loopw [4] (fun i wr => ∃ k : Nat, k ≤ ms.length ∧ i = .int .i64 (k : Int) ∧ Hid (difTo id (mvB ss.length) ms k) ∧ Hid (Blk wr w.heap.size 46 #[.string name, .slice a1 ss.length c1, .slice a2 ms.length c2]) ∧ Hid (Below w.heap.size w wr)) (fun i _ => ms.length - (intOf i).toNat)
        case atStart => exact ⟨0, Nat.zero_le _, rfl, Lib.hid difTo_zero, KQ, HBQ⟩
        case round =>
          clear t0 t1 t2 KQ HBQ
          obtain ⟨k, hk, rfl, HT, K5, HB5⟩ := hrel
          obtain ⟨t0, t1, t2⟩ := K5.out.all
          by_cases hlt : k < ms.length
          · obtain ⟨x, hx⟩ : ∃ n, ms[k]? = some n := ⟨_, List.getElem?_eq_getElem hlt⟩
            obtain ⟨g, off, hA, hg, p0, p1⟩ := (HMS.out.below (HB5.out.mono HBB.out)) k x hx
            subst hA
            obtain ⟨z1, z2⟩ := x
            simp only at p0 p1
            have ib0 : (0 : Int) ≤ (k : Int) := by omega
            have ib1 : (k : Int) < (ms.length : Int) := by omega
            have HX := Lib.hid hx
            clear hx
            have hb6 := HB5.out.alloc HB5.out.size (.cells #[.int .i64 z1, .int .i64 z2] 101)
            have k6 := K5.out.alloc (.cells #[.int .i64 z1, .int .i64 z2] 101)
            have kn := Blk.new wr 101 #[.int .i64 z1, .int .i64 z2]
            go_upto_region 12 with fail
            clear t0 t1 t2 p0 p1
            generalize wr.alloc (.cells #[.int .i64 z1, .int .i64 z2] 101) = W6 at *
            generalize wr.heap.size = gx at *
            have HB6 := Lib.hid hb6
            have K6 := Lib.hid k6
            have KN := Lib.hid kn
            clear hb6 k6 kn K5 HB5
            obtain ⟨t0, t1, t2⟩ := K6.out.all
            obtain ⟨u0, u1, u2⟩ := KN.out.all
            by_cases hm0 : 0 ≤ z1
            case neg =>
              have de : decide (z1 < 0) = true := decide_eq_true (by omega)
              have dn : z1 < 0 := by omega
              obtain rfl : R = false := pc_false HR.out fun e => by have h := (pcB_iff.1 e).2.2.2; rw [difB_bad HX.out (by rw [Bool.eq_false_iff]; intro h2; have h3 := mvB_iff.1 h2; simp only at h3; omega)] at h; cases h
              go_wp2
              go_ret
              exact ⟨rfl, HB6.out⟩
            have de0 : decide (z1 < 0) = false := decide_eq_false (by omega)
            have dn0 : ¬ (z1 < 0) := by omega
            by_cases hm1 : z1 < (ss.length : Int)
            case neg =>
              have de : decide ((ss.length : Int) ≤ z1) = true := decide_eq_true (by omega)
              have dn : (ss.length : Int) ≤ z1 := by omega
              obtain rfl : R = false := pc_false HR.out fun e => by have h := (pcB_iff.1 e).2.2.2; rw [difB_bad HX.out (by rw [Bool.eq_false_iff]; intro h2; have h3 := mvB_iff.1 h2; simp only at h3; omega)] at h; cases h
              go_wp2
              go_ret
              exact ⟨rfl, HB6.out⟩
            have de1 : decide ((ss.length : Int) ≤ z1) = false := decide_eq_false (by omega)
            have dn1 : ¬ ((ss.length : Int) ≤ z1) := by omega
            by_cases hm2 : 0 ≤ z2
            case neg =>
              have de : decide (z2 < 0) = true := decide_eq_true (by omega)
              have dn : z2 < 0 := by omega
              obtain rfl : R = false := pc_false HR.out fun e => by have h := (pcB_iff.1 e).2.2.2; rw [difB_bad HX.out (by rw [Bool.eq_false_iff]; intro h2; have h3 := mvB_iff.1 h2; simp only at h3; omega)] at h; cases h
              go_wp2
              go_ret
              exact ⟨rfl, HB6.out⟩
            have de2 : decide (z2 < 0) = false := decide_eq_false (by omega)
            have dn2 : ¬ (z2 < 0) := by omega
            by_cases hm3 : z2 < (ss.length : Int)
            case neg =>
              have de : decide ((ss.length : Int) ≤ z2) = true := decide_eq_true (by omega)
              have dn : (ss.length : Int) ≤ z2 := by omega
              obtain rfl : R = false := pc_false HR.out fun e => by have h := (pcB_iff.1 e).2.2.2; rw [difB_bad HX.out (by rw [Bool.eq_false_iff]; intro h2; have h3 := mvB_iff.1 h2; simp only at h3; omega)] at h; cases h
              go_wp2
              go_ret
              exact ⟨rfl, HB6.out⟩
            have de3 : decide ((ss.length : Int) ≤ z2) = false := decide_eq_false (by omega)
            have dn3 : ¬ ((ss.length : Int) ≤ z2) := by omega
            by_cases hm4 : z1 ≠ z2
            case neg =>
              have de : (z1 == z2) = true := beq_iff_eq.2 (by omega)
              have dn : z1 = z2 := by omega
              obtain rfl : R = false := pc_false HR.out fun e => by have h := (pcB_iff.1 e).2.2.2; rw [difB_bad HX.out (by rw [Bool.eq_false_iff]; intro h2; have h3 := mvB_iff.1 h2; simp only at h3; omega)] at h; cases h
              go_wp2
              go_ret
              exact ⟨rfl, HB6.out⟩
            have de4 : (z1 == z2) = false := beq_eq_false_iff_ne.2 hm4
            have dn4 : ¬ (z1 = z2) := by omega
            go_wp2_with fail
            clear de0 de1 de2 de3 de4 dn0 dn1 dn2 dn3 dn4 t0 t1 t2 u0 u1 u2
            go_loopw [6] (fun i wi => ∃ j : Nat, j ≤ k ∧ i = .int .i64 (j : Int) ∧ Hid ((z1, z2) ∉ ms.take j) ∧ ∃ q, wi = W6.drewN q) (fun i _ => k - (intOf i).toNat)
            case atStart => exact ⟨0, Nat.zero_le _, rfl, Lib.hid (by simp), 0, rfl⟩
            case round =>
              obtain ⟨j, hj, rfl, HI, q, rfl⟩ := hrel
              have hbq := below_dN HB6.out q
              have hkq := K6.out.drewN q
              have hnq := KN.out.drewN q
              obtain ⟨t0, t1, t2⟩ := hkq.all
              obtain ⟨u0, u1, u2⟩ := hnq.all
              by_cases hjk : j < k
              · obtain ⟨z, hz⟩ : ∃ n, ms[j]? = some n := ⟨_, List.getElem?_eq_getElem (by omega)⟩
                obtain ⟨g2, off2, hA2, hg2, q0, q1⟩ := (HMS.out.below (hbq.mono HBB.out)) j z hz
                injection hA2 with hA2
                injection hA2 with r1 r2 r3
                subst r1 r2
                obtain ⟨y1, y2⟩ := z
                simp only at q0 q1
                have jb0 : (0 : Int) ≤ (j : Int) := by omega
                have jb1 : (j : Int) < (ms.length : Int) := by omega
                have HZ := Lib.hid hz
                clear hz hbq hkq hnq
                by_cases hzz : y1 = z1 ∧ y2 = z2
                · have heq : ∀ W, (Op.equalIn 10000 101 (.agg #[.int .i64 y1, .int .i64 y2]) (.agg #[.int .i64 z1, .int .i64 z2])).run Tryz.prog W = .ok true W := fun W => by rw [eq_ky, decide_eq_true hzz]
                  obtain rfl : R = false := pc_false HR.out fun e => by
                    have h := (pcB_iff.1 e).2.2.2
                    rw [difB_twice (key := id) HX.out (by rw [map_id_]; exact List.mem_of_getElem? (i := j) (by rw [List.getElem?_take, if_pos hjk, HZ.out, hzz.1, hzz.2]; rfl))] at h
                    cases h
                  clear hzz
                  go_wp2_with fail
                  generalize hW : W6.drewN q = W7 at *
                  go_quiet (fail)
                  subst hW
                  go_wp2
                  go_ret
                  exact ⟨rfl, below_dN (below_dN HB6.out q) nq⟩
                · have heq : ∀ W, (Op.equalIn 10000 101 (.agg #[.int .i64 y1, .int .i64 y2]) (.agg #[.int .i64 z1, .int .i64 z2])).run Tryz.prog W = .ok false W := fun W => by rw [eq_ky, decide_eq_false hzz]
                  have HI2 : Hid ((z1, z2) ∉ ms.take (j + 1)) := Lib.hid (by
                    rw [take_snoc' HZ.out]
                    simp only [List.mem_append, List.mem_singleton, Prod.mk.injEq, not_or]
                    exact ⟨HI.out, fun h => hzz ⟨h.1.symm, h.2.symm⟩⟩)
                  clear hzz
                  go_wp2_with fail
                  generalize hW : W6.drewN q = W7 at *
                  go_quiet (fail)
                  subst hW
                  clear t0 t1 t2 u0 u1 u2 q0 q1
                  go_wp2
                  go_roundw
                  case rel => exact ⟨j + 1, by omega, by go_num, HI2, q + nq, rfl⟩
                  case measure => simp [intOf]; omega
              · obtain rfl : j = k := by omega
                have HT2 : Hid (difTo id (mvB ss.length) ms (j + 1)) := Lib.hid (difTo_next HT.out HX.out (mvB_iff.2 ⟨hm0, hm1, hm2, hm3, hm4⟩) (by rw [map_id_]; exact HI.out))
                have HBQ := Lib.hid hbq
                have KQ := Lib.hid hkq
                clear hbq hkq hnq t0 t1 t2 u0 u1 u2
                go_wp2
                go_roundw
                case rel => exact ⟨j + 1, by omega, by go_num, HT2, KQ, HBQ⟩
                case measure => simp [intOf]; omega
          · obtain rfl : k = ms.length := by omega
            have hfin : R = true := by
              rw [← HR.out]
              exact pcB_iff.2 ⟨HC0.out, hc1, HD1.out, by rw [difB_end HT.out]; exact decide_eq_true (by omega)⟩
            subst hfin
            go_wp2
            go_ret
            exact ⟨rfl, HB5.out⟩
end Go.Proofs.YtgfahifdmacmhaaGreatDoor

namespace Go.Proofs.YtgfahifdmacmhaaGreatDoor
open Go.RowKit Go.Shelf

/-- The first fact with a name. -/
def firstI : List Fc → ByteArray → Nat
  | [], _ => 0
  | f :: l, n => if f.name = n then 0 else firstI l n + 1
theorem first_at : ∀ {l : List Fc} {k : Nat} {f : Fc} {n : ByteArray}, l[k]? = some f → f.name = n → n ∉ (l.take k).map (·.name) → firstI l n = k
  | [], k, f, n, h, _, _ => by simp at h
  | g :: l, 0, f, n, h, hf, _ => by
    simp at h
    subst h
    unfold firstI
    rw [if_pos hf]
  | g :: l, k + 1, f, n, h, hf, hn => by
    have hg : ¬ g.name = n := fun e => hn (by simp [e])
    unfold firstI
    rw [if_neg hg, first_at (k := k) (by simpa using h) hf (fun h2 => hn (by simp only [List.take_succ_cons, List.map_cons, List.mem_cons]; exact .inr h2))]
theorem first_no : ∀ {l : List Fc} {k : Nat} {n : ByteArray}, n ∈ (l.take k).map (·.name) → firstI l n < k
  | [], k, n, h => by simp at h
  | g :: l, 0, n, h => by simp at h
  | g :: l, k + 1, n, h => by
    unfold firstI
    by_cases hg : g.name = n
    · rw [if_pos hg]; omega
    · rw [if_neg hg]
      simp only [List.take_succ_cons, List.map_cons, List.mem_cons] at h
      rcases h with h | h
      · exact absurd h.symm hg
      · have := first_no h
        omega

set_option maxRecDepth 100000 in
set_option maxHeartbeats 2000000 in
theorem rindex_any (w : World) (B : Nat) (A : Option Addr) (l : List Fc) (c : Nat) (h : FcsAt w B A l) (hB : B ≤ w.heap.size) (hl : l.length ≤ 4611686018427387904) (n : ByteArray) (hn : ∃ f ∈ l, f.name = n) :
    Calls Tryz.prog 91 #[.agg #[.slice A l.length c], .string n] w fun e w' => e = .returned (.int .i64 (firstI l n : Int)) ∧ Below w.heap.size w w' := by
  obtain ⟨q, hq⟩ : ∃ q, firstI l n = q := ⟨_, rfl⟩
  rw [hq]
  have HQ := Lib.hid hq
  have HNN := Lib.hid hn
  have hb := below_self_alloc w (.cells #[.slice A l.length c] 52)
  have kd := Blk.new w 52 #[.slice A l.length c]
  have HH := Lib.hid (h.below (hb.mono hB))
  obtain ⟨N, hN⟩ : ∃ N, l.length = N := ⟨_, rfl⟩
  have HN := Lib.hid hN
  rw [hN] at hl hb kd ⊢
  rw [hN] at HH
  clear hq h hN hn
  obtain ⟨t0, t1, t2⟩ := kd.all
  go_enter Tryz.func91, Tryz.ntmps91
  go_wp2_with fail
  generalize w.alloc (.cells #[.slice A N c] 52) = W at *
  have HB := Lib.hid hb
  clear hb kd
  go_loop [5] (fun i => ∃ k : Nat, k ≤ N ∧ i = .int .i64 (k : Int) ∧ Hid (n ∉ (l.take k).map (·.name))) (fun i => N - (intOf i).toNat)
  case atStart => exact ⟨0, Nat.zero_le _, rfl, Lib.hid (by simp)⟩
  case round =>
    obtain ⟨k, hk, rfl, HT⟩ := hrel
    by_cases hlt : k < N
    · obtain ⟨x, hx⟩ : ∃ x, l[k]? = some x := ⟨_, List.getElem?_eq_getElem (by rw [HN.out]; exact hlt)⟩
      obtain ⟨g, off, hA, hg, c0, -⟩ := HH.out k x hx
      subst hA
      have ib0 : (0 : Int) ≤ (k : Int) := by omega
      have ib1 : (k : Int) < (N : Int) := by omega
      have HX := Lib.hid hx
      clear hx
      obtain ⟨a, b, d, e⟩ := x
      simp only at c0
      by_cases hxn : a = n
      · obtain rfl : k = q := (first_at HX.out hxn HT.out).symm.trans HQ.out
        subst hxn
        go_wp2_with fail
        go_ret
        exact ⟨rfl, HB.out⟩
      · have HT2 : Hid (n ∉ (l.take (k + 1)).map (·.name)) := Lib.hid (by
          rw [take_snoc' HX.out, List.map_append, List.mem_append]
          rintro (h | h)
          · exact HT.out h
          · simp at h; exact hxn h.symm)
        have e3 := str_no hxn
        clear hxn
        go_wp2_with fail
        go_round
        case rel => exact ⟨k + 1, by omega, by go_num, HT2⟩
        case measure => simp [intOf]; omega
    · obtain rfl : k = N := by omega
      exfalso
      have := HT.out
      rw [List.take_of_length_le (by rw [HN.out]; exact Nat.le_refl _)] at this
      obtain ⟨f, hf, hfn⟩ := HNN.out
      exact this (List.mem_map.2 ⟨f, hf, hfn⟩)

theorem dm_false {l : List Fc} {R : Bool} (h : dmB l = R) (hn : ¬ dmB l = true) : R = false := by
  rw [← h]
  simpa using hn
theorem fcB_iff {f : Fc} : fcB f = true ↔ nameB f.name = true ∧ 0 ≤ f.lo ∧ f.lo ≤ f.hi ∧ f.hi ≤ 1000000 ∧ 1 ≤ f.kind ∧ f.kind ≤ 3 ∧ (f.kind = 1 → f.lo = 0 ∧ f.hi = 1) := by
  unfold fcB
  rw [Bool.and_eq_true, Bool.or_eq_true, decide_eq_true_eq, decide_eq_true_eq]
  constructor
  · rintro ⟨h, hn⟩
    refine ⟨hn, ?_⟩
    rcases h with ⟨h1, h2, h3⟩ | ⟨h1, h2, h3, h4⟩
    · exact ⟨by omega, by omega, by omega, by omega, by omega, fun _ => ⟨h2, h3⟩⟩
    · exact ⟨h2, h3, h4, by omega, by omega, fun h => by omega⟩
  · rintro ⟨hn, h1, h2, h3, h4, h5, h6⟩
    refine ⟨?_, hn⟩
    by_cases hk : f.kind = 1
    · exact .inl ⟨hk, h6 hk⟩
    · exact .inr ⟨by omega, h1, h2, h3⟩
set_option maxRecDepth 100000 in
set_option maxHeartbeats 8000000 in
theorem rfvalid_any (w : World) (B : Nat) (A : Option Addr) (l : List Fc) (c : Nat) (h : FcsAt w B A l) (hB : B ≤ w.heap.size) (hl : l.length ≤ 1000000) (hn : ∀ f ∈ l, f.name.size ≤ 9223372036854775807) :
    Calls Tryz.prog 68 #[.agg #[.slice A l.length c]] w fun e w' => e = .returned (.bool (dmB l)) ∧ Below w.heap.size w w' := by
  obtain ⟨R, hR⟩ : ∃ R, dmB l = R := ⟨_, rfl⟩
  rw [hR]
  have HR := Lib.hid hR
  have HH := Lib.hid h
  have HNM := Lib.hid hn
  have HBB := Lib.hid hB
  have hb := below_self_alloc w (.cells #[.slice A l.length c] 52)
  have kd := Blk.new w 52 #[.slice A l.length c]
  have HB := Lib.hid hb
  have KD := Lib.hid kd
  clear hR h hn hB hb kd
  go_enter Tryz.func68, Tryz.ntmps68
  go_wp2_with fail
  go_loopw [3] (fun i wr => ∃ k : Nat, k ≤ l.length ∧ i = .int .i64 (k : Int) ∧ Hid (difTo (fun x : Fc => x.name) fcB l k) ∧ Hid (Blk wr w.heap.size 52 #[.slice A l.length c]) ∧ Hid (Below w.heap.size w wr)) (fun i _ => l.length - (intOf i).toNat)
  case atStart => exact ⟨0, Nat.zero_le _, rfl, Lib.hid difTo_zero, KD, HB⟩
  case round =>
    clear KD HB
    obtain ⟨k, hk, rfl, HT, KD, HB⟩ := hrel
    obtain ⟨t0, t1, t2⟩ := KD.out.all
    by_cases hlt : k < l.length
    · obtain ⟨x, hx⟩ : ∃ x, l[k]? = some x := ⟨_, List.getElem?_eq_getElem hlt⟩
      obtain ⟨g, off, hA, hg, p0, p1, p2, p3⟩ := (HH.out.below (HB.out.mono HBB.out)) k x hx
      have hsz := HNM.out x (List.mem_of_getElem? hx)
      obtain ⟨a, kd, lo, hi⟩ := x
      simp only at p0 p1 p2 p3 hsz
      subst hA
      have ib0 : (0 : Int) ≤ (k : Int) := by omega
      have ib1 : (k : Int) < (l.length : Int) := by omega
      have HX := Lib.hid hx
      clear hx
      have hb4 := HB.out.alloc HB.out.size (.cells #[.string a, .int .i64 kd, .int .i64 lo, .int .i64 hi] 104)
      have k4 := KD.out.alloc (.cells #[.string a, .int .i64 kd, .int .i64 lo, .int .i64 hi] 104)
      have kn := Blk.new wr 104 #[.string a, .int .i64 kd, .int .i64 lo, .int .i64 hi]
      go_upto_region 5 with fail
      clear t0 t1 t2 p0 p1 p2 p3
      generalize wr.alloc (.cells #[.string a, .int .i64 kd, .int .i64 lo, .int .i64 hi] 104) = W4 at *
      generalize wr.heap.size = gx at *
      have HB4 := Lib.hid hb4
      have K4 := Lib.hid k4
      have KN := Lib.hid kn
      clear hb4 k4 kn KD HB
      obtain ⟨t0, t1, t2⟩ := K4.out.all
      obtain ⟨u0, u1, u2⟩ := KN.out.all
      have hbad : ∀ (hf : fcB ⟨a, kd, lo, hi⟩ = false), R = false := fun hf => dm_false HR.out fun e => by unfold dmB at e; rw [difB_bad HX.out hf] at e; cases e
      have HBAD := Lib.hid hbad
      clear hbad
      have nm := name_any W4 a hsz
      cases hc0 : nameB a with
      | false =>
        have hx : nmB a.data.toList = false := hc0
        rw [hx] at nm
        obtain rfl : R = false := HBAD.out (by rw [Bool.eq_false_iff]; intro h; have := (fcB_iff.1 h).1; simp only at this; rw [hc0] at this; cases this)
        have NM := Lib.hid nm
        clear nm hc0 hx
        go_wp2_with fail
        refine NM.out.mono ?_
        rintro e w3 ⟨rfl, rfl⟩
        go_wp2
        go_ret
        exact ⟨rfl, HB4.out⟩
      | true =>
        have hx : nmB a.data.toList = true := hc0
        rw [hx] at nm
        have NM := Lib.hid nm
        have HC0 := Lib.hid hc0
        clear nm hc0 hx
        have hix := rindex_any W4 B (some ⟨g, off, none⟩) l c (HH.out.below (HB4.out.mono HBB.out)) (Nat.le_trans HBB.out HB4.out.size) (by omega) a ⟨_, List.mem_of_getElem? HX.out, rfl⟩
        have HIX := Lib.hid hix
        clear hix
        go_wp2_with fail
        refine NM.out.mono ?_
        rintro e w3 ⟨rfl, rfl⟩
        go_wp2_with fail
        refine HIX.out.mono ?_
        rintro e W5 ⟨rfl, b5⟩
        have HB5 := Lib.hid (HB4.out.trans (b5.mono HB4.out.size))
        have K5 := Lib.hid (K4.out.below b5 K4.out.lt)
        have KM := Lib.hid (KN.out.below b5 KN.out.lt)
        clear b5 t0 t1 t2 u0 u1 u2 K4 KN HB4 HIX NM
        obtain ⟨t0, t1, t2⟩ := K5.out.all
        obtain ⟨u0, u1, u2⟩ := KM.out.all
        by_cases hm : a ∈ (l.take k).map (fun x : Fc => x.name)
        case pos =>
          have hlt2 := first_no hm
          obtain rfl : R = false := dm_false HR.out fun e => by unfold dmB at e; rw [difB_twice HX.out hm] at e; cases e
          have dx : ((firstI l a : Int) == (k : Int)) = false := by rw [beq_eq_false_iff_ne]; omega
          have dn : ¬ (firstI l a : Int) = (k : Int) := by omega
          clear hm hlt2
          go_wp2
          go_ret
          exact ⟨rfl, HB5.out⟩
        have hfk : firstI l a = k := first_at HX.out rfl hm
        have HM := Lib.hid hm
        rw [hfk]
        clear hfk hm
        by_cases hm0 : 0 ≤ lo
        case neg =>
          have de : decide (lo < 0) = true := decide_eq_true (by omega)
          have dn : lo < 0 := by omega
          obtain rfl : R = false := HBAD.out (by rw [Bool.eq_false_iff]; intro h; have h2 := fcB_iff.1 h; simp only at h2; omega)
          go_wp2
          go_ret
          exact ⟨rfl, HB5.out⟩
        have de0 : decide (lo < 0) = false := decide_eq_false (by omega)
        have dn0 : ¬ (lo < 0) := by omega
        by_cases hm1 : lo ≤ hi
        case neg =>
          have de : decide (hi < lo) = true := decide_eq_true (by omega)
          have dn : hi < lo := by omega
          obtain rfl : R = false := HBAD.out (by rw [Bool.eq_false_iff]; intro h; have h2 := fcB_iff.1 h; simp only at h2; omega)
          go_wp2
          go_ret
          exact ⟨rfl, HB5.out⟩
        have de1 : decide (hi < lo) = false := decide_eq_false (by omega)
        have dn1 : ¬ (hi < lo) := by omega
        by_cases hm2 : hi ≤ 1000000
        case neg =>
          have de : decide (1000000 < hi) = true := decide_eq_true (by omega)
          have dn : 1000000 < hi := by omega
          obtain rfl : R = false := HBAD.out (by rw [Bool.eq_false_iff]; intro h; have h2 := fcB_iff.1 h; simp only at h2; omega)
          go_wp2
          go_ret
          exact ⟨rfl, HB5.out⟩
        have de2 : decide (1000000 < hi) = false := decide_eq_false (by omega)
        have dn2 : ¬ (1000000 < hi) := by omega
        by_cases hm3 : 1 ≤ kd
        case neg =>
          have de : decide (kd < 1) = true := decide_eq_true (by omega)
          have dn : kd < 1 := by omega
          obtain rfl : R = false := HBAD.out (by rw [Bool.eq_false_iff]; intro h; have h2 := fcB_iff.1 h; simp only at h2; omega)
          go_wp2
          go_ret
          exact ⟨rfl, HB5.out⟩
        have de3 : decide (kd < 1) = false := decide_eq_false (by omega)
        have dn3 : ¬ (kd < 1) := by omega
        by_cases hm4 : kd ≤ 3
        case neg =>
          have de : decide (3 < kd) = true := decide_eq_true (by omega)
          have dn : 3 < kd := by omega
          obtain rfl : R = false := HBAD.out (by rw [Bool.eq_false_iff]; intro h; have h2 := fcB_iff.1 h; simp only at h2; omega)
          go_wp2
          go_ret
          exact ⟨rfl, HB5.out⟩
        have de4 : decide (3 < kd) = false := decide_eq_false (by omega)
        have dn4 : ¬ (3 < kd) := by omega
        have hgood : (kd = 1 → lo = 0 ∧ hi = 1) → Hid (difTo (fun x : Fc => x.name) fcB l (k + 1)) := fun h => Lib.hid (difTo_next HT.out HX.out (fcB_iff.2 ⟨HC0.out, hm0, hm1, hm2, hm3, hm4, h⟩) HM.out)
        have HGOOD := Lib.hid hgood
        clear hgood
        by_cases hk1 : kd = 1
        · by_cases hl0 : lo = 0
          · by_cases hh1 : hi = 1
            · have HT2 := HGOOD.out (fun _ => ⟨hl0, hh1⟩)
              subst hk1 hl0 hh1
              clear t0 t1 t2 HM HGOOD HBAD
              go_wp2
              go_roundw
              case rel => exact ⟨k + 1, by omega, by go_num, HT2, K5, HB5⟩
              case measure => simp [intOf]; omega
            · obtain rfl : R = false := HBAD.out (by rw [Bool.eq_false_iff]; intro h; have h2 := fcB_iff.1 h; simp only at h2; omega)
              have dh : (hi == 1) = false := beq_eq_false_iff_ne.2 hh1
              have dh2 : (hi != 1) = true := by simp [hh1]
              subst hk1 hl0
              go_wp2
              go_ret
              exact ⟨rfl, HB5.out⟩
          · obtain rfl : R = false := HBAD.out (by rw [Bool.eq_false_iff]; intro h; have h2 := fcB_iff.1 h; simp only at h2; omega)
            have dh : (lo == 0) = false := beq_eq_false_iff_ne.2 hl0
            have dh2 : (lo != 0) = true := by simp [hl0]
            subst hk1
            go_wp2
            go_ret
            exact ⟨rfl, HB5.out⟩
        · have HT2 := HGOOD.out (fun h => absurd h hk1)
          have dk : (kd == 1) = false := beq_eq_false_iff_ne.2 hk1
          clear t0 t1 t2 HM HGOOD HBAD
          go_wp2
          go_roundw
          case rel => exact ⟨k + 1, by omega, by go_num, HT2, K5, HB5⟩
          case measure => simp [intOf]; omega
    · obtain rfl : k = l.length := by omega
      have hfin : R = decide (l.length ≤ 60) := by
        rw [← HR.out]
        unfold dmB
        rw [difB_end HT.out]
      by_cases h60 : l.length ≤ 60
      · rw [decide_eq_true h60] at hfin
        subst hfin
        have d6 : decide ((l.length : Int) ≤ 60) = true := decide_eq_true (by omega)
        go_wp2
        go_ret
        exact ⟨by first | rfl | simp [d6], HB.out⟩
      · rw [decide_eq_false h60] at hfin
        subst hfin
        have d6 : decide ((l.length : Int) ≤ 60) = false := decide_eq_false (by omega)
        go_wp2
        go_ret
        exact ⟨by first | rfl | simp [d6], HB.out⟩

set_option maxRecDepth 100000 in
set_option maxHeartbeats 8000000 in
theorem rfits_any (w : World) (B : Nat) (A : Option Addr) (d : List Fc) (c : Nat) (h : FcsAt w B A d) (hB : B ≤ w.heap.size) (hl : d.length ≤ 1000000) (hn : ∀ f ∈ d, f.name.size ≤ 9223372036854775807) (A2 : Option Addr) (cs : List Int) (c2 : Nat) (h2 : IntsAt w B A2 cs) (_hl2 : cs.length ≤ 1000000) :
    Calls Tryz.prog 69 #[.agg #[.slice A d.length c], .slice A2 cs.length c2] w fun e w' => e = .returned (.bool (fitB d cs)) ∧ Below w.heap.size w w' := by
  obtain ⟨R, hR⟩ : ∃ R, fitB d cs = R := ⟨_, rfl⟩
  rw [hR]
  unfold fitB at hR
  have hb := below_self_alloc w (.cells #[.slice A d.length c] 52)
  have kd := Blk.new w 52 #[.slice A d.length c]
  have hv := rfvalid_any (w.alloc (.cells #[.slice A d.length c] 52)) B A d c (h.below (hb.mono hB)) (Nat.le_trans hB hb.size) hl hn
  have HR := Lib.hid hR
  have HH := Lib.hid h
  have HI := Lib.hid h2
  have HBB := Lib.hid hB
  obtain ⟨t0, t1, t2⟩ := kd.all
  clear hR h h2 hB hn
  go_enter Tryz.func69, Tryz.ntmps69
  go_upto_region 1 with fail
  generalize w.alloc (.cells #[.slice A d.length c] 52) = W at *
  have HB := Lib.hid hb
  have KD := Lib.hid kd
  clear hb kd
  cases hdm : dmB d with
  | false =>
    rw [hdm] at hv
    have HV := Lib.hid hv
    obtain rfl : false = R := by rw [← HR.out, hdm]; rfl
    clear hv hdm
    go_wp2_with fail
    refine HV.out.mono ?_
    rintro e w3 ⟨rfl, b3⟩
    have hb3 := HB.out.trans (b3.mono HB.out.size)
    clear b3 t0 t1 t2
    go_wp2
    go_ret
    exact ⟨rfl, hb3⟩
  | true =>
    rw [hdm] at hv
    have HV := Lib.hid hv
    have hr := HR.out
    rw [hdm, Bool.true_and] at hr
    have HR2 := Lib.hid hr
    clear hv hdm hr HR
    go_wp2_with fail
    refine HV.out.mono ?_
    rintro e W3 ⟨rfl, b3⟩
    have HB3 := Lib.hid (HB.out.trans (b3.mono HB.out.size))
    have K3 := Lib.hid (KD.out.below b3 KD.out.lt)
    clear b3 t0 t1 t2 KD HB HV
    obtain ⟨t0, t1, t2⟩ := K3.out.all
    by_cases hcl : cs.length = d.length
    case neg =>
      obtain rfl : false = R := by rw [← HR2.out, decide_eq_false hcl]; rfl
      have dx : ((cs.length : Int) == (d.length : Int)) = false := by rw [beq_eq_false_iff_ne]; omega
      have dn : ¬ (cs.length : Int) = (d.length : Int) := by omega
      clear hcl
      go_wp2
      go_ret
      exact ⟨rfl, HB3.out⟩
    have hr := HR2.out
    rw [decide_eq_true hcl, Bool.true_and] at hr
    have HR := Lib.hid hr
    have HCL := Lib.hid hcl
    obtain ⟨N, hN⟩ : ∃ n, d.length = n := ⟨_, rfl⟩
    rw [hN] at hcl
    have HN := Lib.hid hN
    rw [hcl]
    rw [hN] at t0 hl K3
    rw [hN]
    clear hr HR2 hN hcl
    have hN1 : N ≤ 1000000 := hl
    go_wp2_with fail
    go_loopw [5] (fun i wr => ∃ k : Nat, k ≤ N ∧ i = .int .i64 (k : Int) ∧ Hid (((d.zip cs).take k).all (fun x => inB x.1 x.2) = true) ∧ ∃ q, wr = W3.drewN q) (fun i _ => N - (intOf i).toNat)
    case atStart => exact ⟨0, Nat.zero_le _, rfl, Lib.hid rfl, 0, rfl⟩
    case round =>
      clear t0 t1 t2
      obtain ⟨k, hk, rfl, HT, q, rfl⟩ := hrel
      have hkq := K3.out.drewN q
      have hbq := below_dN HB3.out q
      obtain ⟨t0, t1, t2⟩ := hkq.all
      by_cases hlt : k < N
      · obtain ⟨f, hf⟩ : ∃ f, d[k]? = some f := ⟨_, List.getElem?_eq_getElem (by rw [HN.out]; exact hlt)⟩
        obtain ⟨v, hv⟩ : ∃ v, cs[k]? = some v := ⟨_, List.getElem?_eq_getElem (by rw [HCL.out, HN.out]; exact hlt)⟩
        obtain ⟨g, off, hA, hg, -, -, p2, p3⟩ := (HH.out.below (hbq.mono HBB.out)) k f hf
        obtain ⟨g2, off2, hA2, hg2, q0⟩ := (HI.out.below (hbq.mono HBB.out)) k v hv
        subst hA hA2
        have hat := all_zip_take hf hv
        rw [HT.out, Bool.true_and] at hat
        have hmem : (f, v) ∈ d.zip cs := List.mem_of_getElem? (i := k) (List.getElem?_zip_eq_some.2 ⟨hf, hv⟩)
        have HAT := Lib.hid hat
        have HMEM := Lib.hid hmem
        have HBQ := Lib.hid hbq
        obtain ⟨a, kd, lo, hi⟩ := f
        simp only at p2 p3
        have ib0 : (0 : Int) ≤ (k : Int) := by omega
        have ib1 : (k : Int) < (N : Int) := by omega
        clear hf hv hat hmem hkq hbq
        have hbad : inB ⟨a, kd, lo, hi⟩ v = false → R = false := fun h => by
          rw [← HR.out, List.all_eq_false]
          exact ⟨_, HMEM.out, by simp [h]⟩
        have HBAD := Lib.hid hbad
        clear hbad
        by_cases h1 : lo ≤ v
        case neg =>
          have e1 : decide (v < lo) = true := decide_eq_true (by omega)
          have e1' : v < lo := by omega
          obtain rfl : R = false := HBAD.out (by unfold inB; exact decide_eq_false (fun h => h1 h.1))
          go_wp2_with fail
          generalize hW : W3.drewN q = W7 at *
          go_quiet (fail)
          subst hW
          go_wp2
          go_ret
          exact ⟨rfl, below_dN HBQ.out nq⟩
        have e1 : decide (v < lo) = false := decide_eq_false (by omega)
        have e1' : ¬ v < lo := by omega
        by_cases h2 : v ≤ hi
        case neg =>
          have e2 : decide (hi < v) = true := decide_eq_true (by omega)
          have e2' : hi < v := by omega
          obtain rfl : R = false := HBAD.out (by unfold inB; exact decide_eq_false (fun h => h2 h.2))
          go_wp2_with fail
          generalize hW : W3.drewN q = W7 at *
          go_quiet (fail)
          subst hW
          go_wp2
          go_ret
          exact ⟨rfl, below_dN HBQ.out nq⟩
        have e2 : decide (hi < v) = false := decide_eq_false (by omega)
        have e2' : ¬ hi < v := by omega
        have HT2 : Hid (((d.zip cs).take (k + 1)).all (fun x => inB x.1 x.2) = true) := Lib.hid (by rw [HAT.out]; unfold inB; exact decide_eq_true ⟨h1, h2⟩)
        go_wp2_with fail
        generalize hW : W3.drewN q = W7 at *
        go_quiet (fail)
        subst hW
        clear t0 t1 t2 p2 p3 q0
        go_wp2
        go_roundw
        case rel => exact ⟨k + 1, by omega, by go_num, HT2, q + nq, rfl⟩
        case measure => simp [intOf]; omega
      · obtain rfl : k = N := by omega
        obtain rfl : true = R := by
          rw [← HR.out]
          have := HT.out
          rw [List.take_of_length_le (by rw [List.length_zip, HN.out]; omega)] at this
          exact this.symm
        go_wp2
        go_ret
        exact ⟨rfl, hbq⟩
end Go.Proofs.YtgfahifdmacmhaaGreatDoor
