/- The reference's Formed. -/
import Derived.Test.YtknchlpcpgflkaaGreatDoorKGBQ
import Derived.Test.YtknchlpcpgflkaaGreatDoorKWv
import Derived.BigQuiet
namespace Go.Proofs.YtknchlpcpgflkaaGreatDoor
open Go.RowKit Go.Shelf

section
open Go.ChangeShapes Go.WideShapes Go.Deep
variable {H : Type} {enc : TypeId × Value → H} {w : World} {base : Nat} {spare : Nat → Bool} {held : Bool} {fuel len cap : Nat} {A : Option Addr} {x : DataW H × List MemPlace}
theorem slice_cap {t e : TypeId} (ht : Tryz.prog.underlying t = some (.slice e)) (hf : DataW.trod enc Tryz.prog w base spare held fuel t [.slice A len cap] = some x) : len ≤ cap := by
  rcases open_slice ht hf with ⟨h0, _⟩ | ⟨a, len', cap', m, n, D, Pl, hcs, _, hl, _⟩
  · injection h0 with h0
    injection h0 with _ h1 h2
    omega
  · injection hcs with hcs _
    injection hcs with _ h1 h2
    omega
/-- .. with room for what is there. -/
def MtIn2 (w : World) (z : Mt × MtX) : Prop := MtIn w z ∧ z.1.rs.length ≤ z.2.c3
set_option maxRecDepth 100000 in
theorem matter_at2 {v : Value} {d : DataW H} {p : List MemPlace} {cs : Array Value} (hv : v = .agg cs) (hsz : cs.size = Tryz.prog.cellsOf 27)
    (h : DataW.Trod enc Tryz.prog w base spare held 27 v d p) : ∃ z : Mt × MtX, v = .agg (mtC z.1 z.2) ∧ MtIn2 w z := by
  obtain ⟨z, hz, hin⟩ := matter_at hv hsz h
  refine ⟨z, hz, hin, ?_⟩
  subst hz
  obtain ⟨fuel, hf⟩ := h
  obtain ⟨xs, n, _, hx, hl, hlen, hfl⟩ := DataW.trod_struct Tryz.underlying27 hf
  have hlen2 : xs.length = 8 := hlen
  obtain ⟨y6, e6⟩ : ∃ y, xs[6]? = some y := ⟨_, List.getElem?_eq_getElem (by omega)⟩
  have t6 : DataW.trod enc Tryz.prog w base spare held n 24 [.slice z.2.a3 z.1.rs.length z.2.c3] = some y6 := (hfl 6 _ rfl).trans e6
  exact slice_cap Tryz.underlying24 t6
end
theorem add_zero_ (a : Addr) : a.add 0 = a := by simp [Addr.add]
/-- x[:k] inside the capacity. -/
theorem slice_to {P : Program} (t e : TypeId) (s : Nat) (ht : P.underlying t = some (.slice e)) (hs : (P.info? e).map (·.size) = some s) (A : Option Addr) (m cap k : Nat) (hk : k ≤ cap) (W : World) :
    (Instr.slice t (.slice A m cap) none (some (.int .i64 (k : Int))) none).run P W = .ok (.slice A k cap) W := by
  have ht' : P.underlying t = some (.slice (P.elem t)) := by simp [Program.elem, ht]
  have he : P.elem t = e := by simp [Program.elem, ht]
  rw [run_slice_h W t A m cap ht' .i64 (k : Int) (by omega) (by omega), he]
  cases hq : P.info? e with
  | none => simp [hq] at hs
  | some i =>
    simp [sizeOf, typeInfo, hq, Result.andThen, sliced]
    cases A with
    | none => simp
    | some a => simp [add_zero_]
theorem upB_take : ∀ (l : List Int) (a : Int) (k : Nat), upB a l = true → upB a (l.take k) = true
  | [], a, k, _ => by simp [upB]
  | x :: xs, a, 0, _ => rfl
  | x :: xs, a, k + 1, h => by
    have h' : (decide (a ≤ x ∧ x ≤ 1000000) && upB x xs) = true := h
    rw [Bool.and_eq_true] at h'
    show (decide (a ≤ x ∧ x ≤ 1000000) && upB x (xs.take k)) = true
    rw [h'.1, upB_take xs x k h'.2]
    rfl
theorem upB_at {l : List Int} {a : Int} {k : Nat} {d : Int} (hd : l[k]? = some d) : upB a (l.take (k + 1)) = (upB a (l.take k) && decide (lastI a (l.take k) ≤ d ∧ d ≤ 1000000)) := by rw [take_snoc' hd, upB_app]
theorem lastI_at {l : List Int} {a : Int} {k : Nat} {d : Int} (hd : l[k]? = some d) : lastI a (l.take (k + 1)) = d := by rw [take_snoc' hd]; simp [lastI]
theorem upB_no {l : List Int} {a : Int} {k : Nat} {d : Int} (hd : l[k]? = some d) (h : ¬ (lastI a (l.take k) ≤ d ∧ d ≤ 1000000)) : upB a l = false := by
  cases hu : upB a l with
  | false => rfl
  | true =>
    have := upB_take l a (k + 1) hu
    rw [upB_at hd, decide_eq_false h, Bool.and_false] at this
    cases this
theorem fm_false {m : Mt} {R : Bool} (h : fmB m = R) (hn : ¬ fmB m = true) : R = false := by
  rw [← h]
  simpa using hn
theorem all_is {l : List Int} {k : Nat} {n : Int} (h : l[k]? = some n) : (l.take (k + 1)).all isB = ((l.take k).all isB && isB n) := by
  rw [take_snoc' h, List.all_append]
  simp
set_option maxRecDepth 100000 in
set_option maxHeartbeats 8000000 in
theorem rformed_any (w : World) (B : Nat) (m : Mt) (x : MtX) (h : MtAt w B m x) (hB : B ≤ w.heap.size) (hs : Sml m) (hcap : m.rs.length ≤ x.c3) :
    Calls Tryz.prog 54 #[.agg (mtC m x)] w fun e w' => e = .returned (.bool (fmB m)) ∧ Below w.heap.size w w' := by
  obtain ⟨R, hR⟩ : ∃ R, fmB m = R := ⟨_, rfl⟩
  rw [hR]
  obtain ⟨hcs, hmv, hrs, hls, hlv, hid, hpr, hrn⟩ := h
  obtain ⟨s1, s2, s3, s4⟩ := hs
  obtain ⟨id, o, cs, pr, st, mv, rs, ls⟩ := m
  obtain ⟨a1, c1, a2, c2, a3, c3, a4, c4, lv⟩ := x
  simp only at *
  have hll : lv.length = ls.length := by
    have := congrArg List.length hlv
    simpa using this
  show Calls Tryz.prog 54 #[.agg #[.string id, .int .i64 o, .slice a1 cs.length c1, .string pr, .int .i64 st, .slice a2 mv.length c2, .slice a3 rs.length c3, .slice a4 ls.length c4]] w _
  have hb := below_self_alloc w (.cells #[.string id, .int .i64 o, .slice a1 cs.length c1, .string pr, .int .i64 st, .slice a2 mv.length c2, .slice a3 rs.length c3, .slice a4 ls.length c4] 27)
  have kx := Blk.new w 27 #[.string id, .int .i64 o, .slice a1 cs.length c1, .string pr, .int .i64 st, .slice a2 mv.length c2, .slice a3 rs.length c3, .slice a4 ls.length c4]
  have HR := Lib.hid hR
  have HCS := Lib.hid (hcs.below (hb.mono hB))
  have HMV := Lib.hid (hmv.below (hb.mono hB))
  have HRS := Lib.hid hrs
  have HLS := Lib.hid hls
  have HLV := Lib.hid hlv
  have HRN := Lib.hid hrn
  have HLL := Lib.hid hll
  have HBB := Lib.hid hB
  have HB := Lib.hid hb
  have KX := Lib.hid kx
  clear hR hcs hmv hrs hls hlv hrn hll hB
  obtain ⟨t0, t1, t2⟩ := kx.all
  go_enter Tryz.func54, Tryz.ntmps54
  go_upto_region 1 with fail
  generalize w.alloc (.cells #[.string id, .int .i64 o, .slice a1 cs.length c1, .string pr, .int .i64 st, .slice a2 mv.length c2, .slice a3 rs.length c3, .slice a4 ls.length c4] 27) = W at *
  clear hb kx
  have nm := rname07_any W id hid
  cases hc0 : nameB id with
  | false =>
    have hx : nmB id.data.toList = false := hc0
    rw [hx] at nm
    obtain rfl : R = false := fm_false HR.out fun e => by have h := (fmB_iff.1 e).1; rw [hc0] at h; cases h
    have NM := Lib.hid nm
    clear nm hc0 hx
    go_wp2_with fail
    refine NM.out.mono ?_
    rintro e w3 ⟨rfl, rfl⟩
    clear NM
    go_wp2
    go_ret
    exact ⟨rfl, HB.out⟩
  | true =>
    have hx : nmB id.data.toList = true := hc0
    rw [hx] at nm
    have NM := Lib.hid nm
    have HC0 := Lib.hid hc0
    clear nm hc0 hx
    go_wp2_with fail
    refine NM.out.mono ?_
    rintro e w3 ⟨rfl, rfl⟩
    clear NM
    have nm := rname07_any W pr hpr
    cases hc1 : nameB pr with
    | false =>
      have hx : nmB pr.data.toList = false := hc1
      rw [hx] at nm
      obtain rfl : R = false := fm_false HR.out fun e => by have h := (fmB_iff.1 e).2.1; rw [hc1] at h; cases h
      have NM := Lib.hid nm
      clear nm hc1 hx
      go_wp2_with fail
      refine NM.out.mono ?_
      rintro e w3 ⟨rfl, rfl⟩
      clear NM
      go_wp2
      go_ret
      exact ⟨rfl, HB.out⟩
    | true =>
      have hx : nmB pr.data.toList = true := hc1
      rw [hx] at nm
      have NM := Lib.hid nm
      have HC1 := Lib.hid hc1
      clear nm hc1 hx
      go_wp2_with fail
      refine NM.out.mono ?_
      rintro e w3 ⟨rfl, rfl⟩
      clear NM
      have nm := rDay_any W o
      cases hc2 : isB o with
      | false =>
        have hx : isB o = false := hc2
        rw [hx] at nm
        obtain rfl : R = false := fm_false HR.out fun e => by have h := (fmB_iff.1 e).2.2.1; rw [hc2] at h; cases h
        have NM := Lib.hid nm
        clear nm hc2 hx
        go_wp2_with fail
        refine NM.out.mono ?_
        rintro e w3 ⟨rfl, rfl⟩
        clear NM
        go_wp2
        go_ret
        exact ⟨rfl, HB.out⟩
      | true =>
        have hx : isB o = true := hc2
        rw [hx] at nm
        have NM := Lib.hid nm
        have HC2 := Lib.hid hc2
        clear nm hc2 hx
        go_wp2_with fail
        refine NM.out.mono ?_
        rintro e w3 ⟨rfl, rfl⟩
        clear NM
        by_cases hc3 : 0 ≤ st
        case neg =>
          have dd : decide (st < 0) = true := decide_eq_true (by omega)
          obtain rfl : R = false := fm_false HR.out fun e => hc3 (fmB_iff.1 e).2.2.2.1.1
          go_wp2
          go_ret
          exact ⟨rfl, HB.out⟩
        have dd3 : decide (st < 0) = false := decide_eq_false (by omega)
        by_cases hc4 : st < 60
        case neg =>
          have dd : decide (60 ≤ st) = true := decide_eq_true (by omega)
          obtain rfl : R = false := fm_false HR.out fun e => hc4 (fmB_iff.1 e).2.2.2.1.2
          go_wp2
          go_ret
          exact ⟨rfl, HB.out⟩
        have dd4 : decide (60 ≤ st) = false := decide_eq_false (by omega)
        by_cases hc5 : cs.length ≤ 60
        case neg =>
          have dd : decide ((60 : Int) < (cs.length : Int)) = true := decide_eq_true (by omega)
          obtain rfl : R = false := fm_false HR.out fun e => hc5 (fmB_iff.1 e).2.2.2.2.2.1
          go_wp2
          go_ret
          exact ⟨rfl, HB.out⟩
        have dd5 : decide ((60 : Int) < (cs.length : Int)) = false := decide_eq_false (by omega)
        by_cases hc6 : mv.length ≤ 60
        case neg =>
          have dd : decide ((60 : Int) < (mv.length : Int)) = true := decide_eq_true (by omega)
          obtain rfl : R = false := fm_false HR.out fun e => hc6 (fmB_iff.1 e).2.2.2.2.2.2.2.1
          go_wp2
          go_ret
          exact ⟨rfl, HB.out⟩
        have dd6 : decide ((60 : Int) < (mv.length : Int)) = false := decide_eq_false (by omega)
        by_cases hc7 : rs.length ≤ 60
        case neg =>
          have dd : decide ((60 : Int) < (rs.length : Int)) = true := decide_eq_true (by omega)
          obtain rfl : R = false := fm_false HR.out fun e => hc7 (difB_iff.1 (fmB_iff.1 e).2.2.2.2.2.2.2.2.1).2.2
          go_wp2
          go_ret
          exact ⟨rfl, HB.out⟩
        have dd7 : decide ((60 : Int) < (rs.length : Int)) = false := decide_eq_false (by omega)
        by_cases hc8 : ls.length ≤ 60
        case neg =>
          have dd : decide ((60 : Int) < (ls.length : Int)) = true := decide_eq_true (by omega)
          obtain rfl : R = false := fm_false HR.out fun e => hc8 (difB_iff.1 (fmB_iff.1 e).2.2.2.2.2.2.2.2.2).2.2
          go_wp2
          go_ret
          exact ⟨rfl, HB.out⟩
        have dd8 : decide ((60 : Int) < (ls.length : Int)) = false := decide_eq_false (by omega)
        go_wp2_with fail
        clear dd3 dd4 dd5 dd6 dd7 dd8
        go_loop [3] (fun i => ∃ k : Nat, k ≤ cs.length ∧ i = .int .i64 (k : Int) ∧ Hid ((cs.take k).all isB = true)) (fun i => cs.length - (intOf i).toNat)
        case atStart => exact ⟨0, Nat.zero_le _, rfl, Lib.hid rfl⟩
        case round =>
          obtain ⟨k, hk, rfl, HT⟩ := hrel
          by_cases hlt : k < cs.length
          · obtain ⟨n, hn⟩ : ∃ n, cs[k]? = some n := ⟨_, List.getElem?_eq_getElem hlt⟩
            obtain ⟨g, off, hA, hg, p0⟩ := HCS.out k n hn
            subst hA
            have ib0 : (0 : Int) ≤ (k : Int) := by omega
            have ib1 : (k : Int) < (cs.length : Int) := by omega
            have HN := Lib.hid hn
            clear hn
            cases hi : isB n with
            | true =>
              have HT2 : Hid ((cs.take (k + 1)).all isB = true) := Lib.hid (by rw [all_is HN.out, HT.out, hi]; rfl)
              have hi' := (isB_iff n).1 hi
              have e1 : decide (n < 0) = false := decide_eq_false (by omega)
              have e2 : decide (1000000 < n) = false := decide_eq_false (by omega)
              have h0n : ¬ n < 0 := by omega
              have h1n : ¬ 1000000 < n := by omega
              clear hi hi'
              go_wp2_with fail
              go_round
              case rel => exact ⟨k + 1, by omega, by go_num, HT2⟩
              case measure => simp [intOf]; omega
            | false =>
              obtain rfl : R = false := fm_false HR.out fun e => by have h := (fmB_iff.1 e).2.2.2.2.1 n (List.mem_of_getElem? HN.out); rw [hi] at h; cases h
              have hi' : n < 0 ∨ 1000000 < n := by
                rcases Int.lt_or_le n 0 with h | h
                · exact .inl h
                · rcases Int.lt_or_le 1000000 n with h2 | h2
                  · exact .inr h2
                  · rw [(isB_iff n).2 ⟨h, h2⟩] at hi; cases hi
              clear hi
              rcases hi' with hi' | hi'
              · have e1 : decide (n < 0) = true := decide_eq_true hi'
                go_wp2_with fail
                go_ret
                exact ⟨rfl, HB.out⟩
              · have e1 : decide (n < 0) = false := decide_eq_false (by omega)
                have e2 : decide (1000000 < n) = true := decide_eq_true hi'
                go_wp2_with fail
                go_ret
                exact ⟨rfl, HB.out⟩
          · obtain rfl : k = cs.length := by omega
            have HCA : Hid (∀ x ∈ cs, isB x = true) := Lib.hid (by have := HT.out; rw [List.take_length] at this; exact List.all_eq_true.1 this)
            clear HT
            go_wp2_with fail
            go_loop [4, 5] (fun v i => ∃ k : Nat, k ≤ mv.length ∧ i = .int .i64 (k : Int) ∧ v = .int .i64 (lastI o (mv.take k)) ∧ Hid (upB o (mv.take k) = true)) (fun _ i => mv.length - (intOf i).toNat)
            case atStart => exact ⟨0, Nat.zero_le _, rfl, rfl, Lib.hid rfl⟩
            case round =>
              obtain ⟨k, hk, rfl, rfl, HT⟩ := hrel
              obtain ⟨la, hla⟩ : ∃ la, lastI o (mv.take k) = la := ⟨_, rfl⟩
              rw [hla]
              by_cases hlt : k < mv.length
              · obtain ⟨d, hd⟩ : ∃ n, mv[k]? = some n := ⟨_, List.getElem?_eq_getElem hlt⟩
                obtain ⟨g, off, hA, hg, p0⟩ := HMV.out k d hd
                subst hA
                have ib0 : (0 : Int) ≤ (k : Int) := by omega
                have ib1 : (k : Int) < (mv.length : Int) := by omega
                have HD := Lib.hid hd
                have HLA := Lib.hid hla
                clear hd hla
                by_cases h1 : la ≤ d
                · have e1 : decide (d < la) = false := decide_eq_false (by omega)
                  have h1' : ¬ d < la := by omega
                  by_cases h2 : d ≤ 1000000
                  · have e2 : decide (1000000 < d) = false := decide_eq_false (by omega)
                    have h2' : ¬ 1000000 < d := by omega
                    have HT2 : Hid (upB o (mv.take (k + 1)) = true) := Lib.hid (by rw [upB_at HD.out, HT.out, HLA.out, decide_eq_true ⟨h1, h2⟩]; rfl)
                    have HL2 := Lib.hid (lastI_at (a := o) HD.out)
                    go_wp2_with fail
                    go_round
                    case rel => exact ⟨k + 1, by omega, by go_num, by rw [HL2.out], HT2⟩
                    case measure => simp [intOf]; omega
                  · have e2 : decide (1000000 < d) = true := decide_eq_true (by omega)
                    obtain rfl : R = false := fm_false HR.out fun e => by have h := (fmB_iff.1 e).2.2.2.2.2.2.1; rw [upB_no HD.out (by rw [HLA.out]; exact fun h => h2 h.2)] at h; cases h
                    go_wp2_with fail
                    go_ret
                    exact ⟨rfl, HB.out⟩
                · have e1 : decide (d < la) = true := decide_eq_true (by omega)
                  have h1' : d < la := by omega
                  obtain rfl : R = false := fm_false HR.out fun e => by have h := (fmB_iff.1 e).2.2.2.2.2.2.1; rw [upB_no HD.out (by rw [HLA.out]; exact fun h => h1 h.1)] at h; cases h
                  go_wp2_with fail
                  go_ret
                  exact ⟨rfl, HB.out⟩
              · obtain rfl : k = mv.length := by omega
                have HMA : Hid (upB o mv = true) := Lib.hid (by have := HT.out; rwa [List.take_length] at this)
                clear HT hla
                go_wp2_with fail
                go_loopw [6] (fun i wr => ∃ k : Nat, k ≤ rs.length ∧ i = .int .i64 (k : Int) ∧ Hid (difTo (fun x : Rt => x.1) (rtB o) rs k) ∧ Hid (Blk wr w.heap.size 27 #[.string id, .int .i64 o, .slice a1 cs.length c1, .string pr, .int .i64 st, .slice a2 mv.length c2, .slice a3 rs.length c3, .slice a4 ls.length c4]) ∧ Hid (Below w.heap.size w wr)) (fun i _ => rs.length - (intOf i).toNat)
                case atStart => exact ⟨0, Nat.zero_le _, rfl, Lib.hid difTo_zero, KX, HB⟩
                case round =>
                  clear t0 t1 t2
                  obtain ⟨k, hk, rfl, HT, K3, HB3⟩ := hrel
                  obtain ⟨t0, t1, t2⟩ := K3.out.all
                  by_cases hlt : k < rs.length
                  · obtain ⟨x, hx⟩ : ∃ n, rs[k]? = some n := ⟨_, List.getElem?_eq_getElem hlt⟩
                    obtain ⟨g, off, hA, hg, p0, p1⟩ := (HRS.out.below (HB3.out.mono HBB.out)) k x hx
                    have hrt : RtsAt wr B a3 (rs.take k) := fun i y hi => (HRS.out.below (HB3.out.mono HBB.out)) i y (by
                      have hik : i < k := by have := (List.getElem?_eq_some_iff.1 hi).1; rw [List.length_take] at this; omega
                      rw [List.getElem?_take, if_pos hik] at hi
                      exact hi)
                    have hlk : (rs.take k).length = k := by rw [List.length_take]; omega
                    have hszn := HRN.out x (List.mem_of_getElem? hx)
                    obtain ⟨nm, d⟩ := x
                    simp only at p0 p1 hszn
                    subst hA
                    have ib0 : (0 : Int) ≤ (k : Int) := by omega
                    have ib1 : (k : Int) < (rs.length : Int) := by omega
                    have HX := Lib.hid hx
                    have HRT := Lib.hid hrt
                    have HLK := Lib.hid hlk
                    clear hx hrt hlk
                    have hb4 := HB3.out.alloc HB3.out.size (.cells #[.string nm, .int .i64 d] 56)
                    have k4 := K3.out.alloc (.cells #[.string nm, .int .i64 d] 56)
                    have kn := Blk.new wr 56 #[.string nm, .int .i64 d]
                    have hrt4 := HRT.out.below ((below_self_alloc wr (.cells #[.string nm, .int .i64 d] 56)).mono (Nat.le_trans HBB.out HB3.out.size))
                    go_upto_region 19 with fail
                    clear t0 t1 t2 p0 p1
                    generalize wr.alloc (.cells #[.string nm, .int .i64 d] 56) = W4 at *
                    generalize wr.heap.size = gx at *
                    have HB4 := Lib.hid hb4
                    have K4 := Lib.hid k4
                    have KN := Lib.hid kn
                    have HRT4 := Lib.hid hrt4
                    clear hb4 k4 kn hrt4
                    obtain ⟨t0, t1, t2⟩ := K4.out.all
                    obtain ⟨u0, u1, u2⟩ := KN.out.all
                    have hnm : ∀ n, Calls Tryz.prog 122 #[.string nm] (W4.drewN n) fun e w'' => e = .returned (.bool (nameB nm)) ∧ ∃ m, w'' = W4.drewN m := fun n => (rname07_any (W4.drewN n) nm hszn).mono fun _ _ ⟨h1, h2⟩ => ⟨h1, n, h2.symm⟩
                    cases hn : nameB nm with
                    | false =>
                      rw [hn] at hnm
                      have HNM := Lib.hid hnm
                      obtain rfl : R = false := fm_false HR.out fun e => by have h := (fmB_iff.1 e).2.2.2.2.2.2.2.2.1; rw [difB_bad HX.out (by unfold rtB; rw [hn]; rfl)] at h; cases h
                      clear hnm hn
                      go_quiet ((go_at_call 122; exact HNM.out _))
                      go_wp2
                      go_ret
                      exact ⟨rfl, below_dN HB4.out nq⟩
                    | true =>
                      rw [hn] at hnm
                      have HNM := Lib.hid hnm
                      have HN1 := Lib.hid hn
                      clear hnm hn
                      by_cases h1 : o ≤ d
                      case neg =>
                        have e1 : decide (d < o) = true := decide_eq_true (by omega)
                        have h1' : d < o := by omega
                        obtain rfl : R = false := fm_false HR.out fun e => by have h := (fmB_iff.1 e).2.2.2.2.2.2.2.2.1; rw [difB_bad HX.out (by unfold rtB; rw [decide_eq_false h1, Bool.false_and, Bool.and_false])] at h; cases h
                        go_quiet ((go_at_call 122; exact HNM.out _))
                        go_wp2
                        go_ret
                        exact ⟨rfl, below_dN HB4.out nq⟩
                      have e1 : decide (d < o) = false := decide_eq_false (by omega)
                      have h1' : ¬ d < o := by omega
                      by_cases h2 : d ≤ 1000000
                      case neg =>
                        have e2 : decide (1000000 < d) = true := decide_eq_true (by omega)
                        have h2' : 1000000 < d := by omega
                        obtain rfl : R = false := fm_false HR.out fun e => by have h := (fmB_iff.1 e).2.2.2.2.2.2.2.2.1; rw [difB_bad HX.out (by unfold rtB; rw [isB_no (.inr (by omega)), Bool.and_false, Bool.and_false])] at h; cases h
                        go_quiet ((go_at_call 122; exact HNM.out _))
                        go_wp2
                        go_ret
                        exact ⟨rfl, below_dN HB4.out nq⟩
                      have e2 : decide (1000000 < d) = false := decide_eq_false (by omega)
                      have h2' : ¬ 1000000 < d := by omega
                      have hsl := fun W => slice_to (P := Tryz.prog) 24 56 2 Tryz.underlying24 (by kernel_rfl) (some ⟨g, off, none⟩) rs.length c3 k (by omega) W
                      obtain ⟨q, hq⟩ : ∃ q : Bool, q = true ↔ nm ∈ (rs.take k).map (fun x : Rt => x.1) := by
                        by_cases h : nm ∈ (rs.take k).map (fun x : Rt => x.1)
                        · exact ⟨true, by simp only [h]⟩
                        · exact ⟨false, by simp only [h]; decide⟩
                      have hri : ∀ n, Calls Tryz.prog 123 #[.slice (some ⟨g, off, none⟩) k c3, .string nm] (W4.drewN n) fun e w'' => e = .returned (.bool q) ∧ ∃ m, w'' = W4.drewN m := fun n => by
                        have h := rright_any (W4.drewN n) B (some ⟨g, off, none⟩) (rs.take k) c3 (HRT4.out.below (below_dN (Below.refl _ _) n)) (by rw [HLK.out]; omega) nm q hq
                        rw [HLK.out] at h
                        exact h.mono fun _ _ ⟨h1, h2⟩ => ⟨h1, n, h2.symm⟩
                      have HRI := Lib.hid hri
                      have HQ := Lib.hid hq
                      clear hri hq
                      go_quiet (first | (go_at_call 122; exact HNM.out _) | (go_at_call 123; exact HRI.out _))
                      cases q with
                      | true =>
                        obtain rfl : R = false := fm_false HR.out fun e => by have h := (fmB_iff.1 e).2.2.2.2.2.2.2.2.1; rw [difB_twice HX.out (HQ.out.1 rfl)] at h; cases h
                        go_wp2
                        go_ret
                        exact ⟨rfl, below_dN HB4.out nq⟩
                      | false =>
                        have HT2 : Hid (difTo (fun x : Rt => x.1) (rtB o) rs (k + 1)) := Lib.hid (difTo_next HT.out HX.out (by
                          have ho := (isB_iff o).1 HC2.out
                          unfold rtB
                          rw [HN1.out, decide_eq_true h1, (isB_iff d).2 (by omega)]
                          rfl) (fun h => by have := HQ.out.2 h; cases this))
                        have HBN := Lib.hid (below_dN HB4.out nq)
                        have KXN := Lib.hid (K4.out.drewN nq)
                        clear t0 t1 t2 u0 u1 u2 HRT4 HRT
                        go_wp2
                        go_roundw
                        case rel => exact ⟨k + 1, by omega, by go_num, HT2, KXN, HBN⟩
                        case measure => simp [intOf]; omega
                  · obtain rfl : k = rs.length := by omega
                    have HD1 : Hid (difB (fun x : Rt => x.1) (rtB o) rs = true) := Lib.hid (by rw [difB_end HT.out]; exact decide_eq_true (by omega))
                    clear HT
                    obtain ⟨Wr, rfl⟩ : ∃ q, q = wr := ⟨wr, rfl⟩
                    go_wp2_with fail
                    go_loopw [8] (fun i wr => ∃ k : Nat, k ≤ ls.length ∧ i = .int .i64 (k : Int) ∧ Hid (difTo (fun x : Lm => x.id) prB ls k) ∧ Hid (Blk wr w.heap.size 27 #[.string id, .int .i64 o, .slice a1 cs.length c1, .string pr, .int .i64 st, .slice a2 mv.length c2, .slice a3 rs.length c3, .slice a4 ls.length c4]) ∧ Hid (Below w.heap.size w wr)) (fun i _ => ls.length - (intOf i).toNat)
                    case atStart => exact ⟨0, Nat.zero_le _, rfl, Lib.hid difTo_zero, K3, HB3⟩
                    case round =>
                      clear t0 t1 t2 K3 HB3
                      obtain ⟨k, hk, rfl, HT, K5, HB5⟩ := hrel
                      obtain ⟨t0, t1, t2⟩ := K5.out.all
                      by_cases hlt : k < ls.length
                      · obtain ⟨y, hy⟩ : ∃ n, lv[k]? = some n := ⟨_, List.getElem?_eq_getElem (by rw [HLL.out]; exact hlt)⟩
                        have hx : ls[k]? = some y.1 := by rw [← HLV.out, List.getElem?_map, hy]; rfl
                        obtain ⟨g, off, hA, hg, p0, p1, p2, p3, p4, hat⟩ := (HLS.out.below (HB5.out.mono HBB.out)) k y hy
                        obtain ⟨⟨lid, ln, lu, lf, S⟩, A5, c5⟩ := y
                        simp only at p0 p1 p2 p3 p4 hat hx
                        subst hA
                        have ib0 : (0 : Int) ≤ (k : Int) := by omega
                        have ib1 : (k : Int) < (ls.length : Int) := by omega
                        have HX := Lib.hid hx
                        have HY := Lib.hid hy
                        clear hx hy
                        have hpr : Calls Tryz.prog 124 #[.agg #[.string lid, .int .i64 ln, .int .i64 lu, .int .i64 lf, .slice A5 S.length c5]] wr _ := rProper_any wr ⟨lid, ln, lu, lf, S⟩ B A5 c5 hat (Nat.le_trans HBB.out HB5.out.size)
                        cases hp : prB ⟨lid, ln, lu, lf, S⟩ with
                        | false =>
                          rw [hp] at hpr
                          have HPR := Lib.hid hpr
                          obtain rfl : R = false := fm_false HR.out fun e => by have h := (fmB_iff.1 e).2.2.2.2.2.2.2.2.2; rw [difB_bad HX.out hp] at h; cases h
                          clear hpr hp hat
                          go_wp2_with fail
                          refine HPR.out.mono ?_
                          rintro e w6 ⟨rfl, b6⟩
                          have hb6 := HB5.out.trans (b6.mono HB5.out.size)
                          clear b6 t0 t1 t2 p0 p1 p2 p3 p4
                          go_wp2
                          go_ret
                          exact ⟨rfl, hb6⟩
                        | true =>
                          rw [hp] at hpr
                          have HPR := Lib.hid hpr
                          have HP1 := Lib.hid hp
                          clear hpr hp hat
                          go_wp2_with fail
                          refine HPR.out.mono ?_
                          rintro e w6 ⟨rfl, b6⟩
                          have HB6 := Lib.hid (HB5.out.trans (b6.mono HB5.out.size))
                          have K6 := Lib.hid (K5.out.below b6 K5.out.lt)
                          clear b6 t0 t1 t2 p0 p1 p2 p3 p4 HPR K5 HB5
                          go_wp2_with fail
                          go_loopw [9] (fun i wi => ∃ j : Nat, j ≤ k ∧ i = .int .i64 (j : Int) ∧ Hid (lid ∉ (ls.take j).map (fun x : Lm => x.id)) ∧ ∃ q, wi = w6.drewN q) (fun i _ => k - (intOf i).toNat)
                          case atStart => exact ⟨0, Nat.zero_le _, rfl, Lib.hid (by simp), 0, rfl⟩
                          case round =>
                            obtain ⟨j, hj, rfl, HI, q, rfl⟩ := hrel
                            have hbq := below_dN HB6.out q
                            have hkq := K6.out.drewN q
                            obtain ⟨t0, t1, t2⟩ := hkq.all
                            by_cases hjk : j < k
                            · obtain ⟨z, hz⟩ : ∃ n, lv[j]? = some n := ⟨_, List.getElem?_eq_getElem (by rw [HLL.out]; omega)⟩
                              have hzx : ls[j]? = some z.1 := by rw [← HLV.out, List.getElem?_map, hz]; rfl
                              obtain ⟨g2, off2, hA2, hg2, q0, -⟩ := (HLS.out.below (hbq.mono HBB.out)) j z hz
                              obtain ⟨g3, off3, hA3, hg3, q1, -⟩ := (HLS.out.below (hbq.mono HBB.out)) k _ HY.out
                              injection hA2 with hA2
                              injection hA2 with r1 r2 r3
                              subst r1 r2
                              injection hA3 with hA3
                              injection hA3 with r1 r2 r3
                              subst r1 r2
                              obtain ⟨⟨zid, zn, zu, zf, Sz⟩, A6, c6⟩ := z
                              simp only at q0 q1 hzx
                              have jb0 : (0 : Int) ≤ (j : Int) := by omega
                              have jb1 : (j : Int) < (ls.length : Int) := by omega
                              have HZX := Lib.hid hzx
                              clear hz hzx hbq hkq
                              by_cases hid2 : zid = lid
                              · subst hid2
                                obtain rfl : R = false := fm_false HR.out fun e => by
                                  have h := (fmB_iff.1 e).2.2.2.2.2.2.2.2.2
                                  rw [difB_twice HX.out (List.mem_map.2 ⟨⟨zid, zn, zu, zf, Sz⟩, List.mem_of_getElem? (by rw [List.getElem?_take, if_pos hjk]; exact HZX.out), rfl⟩)] at h
                                  cases h
                                go_wp2_with fail
                                generalize hW : w6.drewN q = W at *
                                go_quiet (fail)
                                subst hW
                                go_wp2
                                go_ret
                                exact ⟨rfl, below_dN (below_dN HB6.out q) nq⟩
                              · have HI2 : Hid (lid ∉ (ls.take (j + 1)).map (fun x : Lm => x.id)) := Lib.hid (by
                                  rw [take_snoc' HZX.out, List.map_append, List.mem_append]
                                  rintro (h | h)
                                  · exact HI.out h
                                  · simp at h; exact hid2 h.symm)
                                have e3 := str_no hid2
                                clear hid2
                                go_wp2_with fail
                                generalize hW : w6.drewN q = W at *
                                go_quiet (fail)
                                subst hW
                                clear t0 t1 t2 q0 q1
                                go_wp2
                                go_roundw
                                case rel => exact ⟨j + 1, by omega, by go_num, HI2, q + nq, rfl⟩
                                case measure => simp [intOf]; omega
                            · obtain rfl : j = k := by omega
                              have HT2 : Hid (difTo (fun x : Lm => x.id) prB ls (j + 1)) := Lib.hid (difTo_next HT.out HX.out HP1.out HI.out)
                              have HBQ := Lib.hid hbq
                              have KQ := Lib.hid hkq
                              clear hbq hkq t0 t1 t2
                              go_wp2
                              go_roundw
                              case rel => exact ⟨j + 1, by omega, by go_num, HT2, KQ, HBQ⟩
                              case measure => simp [intOf]; omega
                      · obtain rfl : k = ls.length := by omega
                        have hfin : R = true := by
                          rw [← HR.out]
                          exact fmB_iff.2 ⟨HC0.out, HC1.out, HC2.out, ⟨hc3, hc4⟩, HCA.out, hc5, HMA.out, hc6, HD1.out, by rw [difB_end HT.out]; exact decide_eq_true (by omega)⟩
                        subst hfin
                        go_wp2
                        go_ret
                        exact ⟨rfl, HB5.out⟩
end Go.Proofs.YtknchlpcpgflkaaGreatDoor
