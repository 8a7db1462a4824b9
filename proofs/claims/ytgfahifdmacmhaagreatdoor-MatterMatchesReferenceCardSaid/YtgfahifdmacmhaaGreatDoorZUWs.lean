/- The chapter's examples: what the contracts say of them. -/
import Derived.Test.YtgfahifdmacmhaaGreatDoorZUGC
import Derived.Test.YtgfahifdmacmhaaGreatDoorZUWm
import Derived.Test.YtgfahifdmacmhaaGreatDoorZUWp
namespace Go.Proofs.YtgfahifdmacmhaaGreatDoor
open Go.RowKit Go.Shelf

def m1S : ByteArray := ⟨#[109, 49]⟩
def appS : ByteArray := ⟨#[97, 112, 112, 101, 97, 108]⟩
def exM : Mt := ⟨m1S, 5, [20, 0], oldS, 0, [], [], []⟩
def exA : Mt := ⟨m1S, 5, [20, 0], oldS, 1, [7], [], []⟩
def exB : Mt := ⟨m1S, 5, [20, 0], oldS, 1, [7], [(appS, 7)], []⟩
def exT : List UInt8 := [109, 97, 116, 116, 101, 114, 32, 109, 49, 32, 53, 32, 111, 108, 100, 32, 49, 10, 99, 97, 115, 101, 32, 50, 48, 32, 48, 10, 109, 111, 118, 101, 100, 32, 55, 10, 114, 105, 103, 104, 116, 32, 97, 112, 112, 101, 97, 108, 32, 55, 10]
theorem ex_mv1 : moveE exM exP 1 7 = 0 ∧ moveM exM exP 1 7 = exA := by
  have h : moveE exM exP 1 7 = 0 := by decide +kernel
  exact ⟨h, by unfold moveM; rw [if_pos h]; rfl⟩
theorem ex_mv2 : moveE exA exP 2 6 = 24 ∧ moveM exA exP 2 6 = Mt.zero := by
  have h : moveE exA exP 2 6 = 24 := by decide +kernel
  exact ⟨h, by unfold moveM; rw [if_neg (by rw [h]; decide)]⟩
theorem ex_mv3 : moveE exM exP 2 7 = 12 ∧ moveM exM exP 2 7 = Mt.zero := by
  have h : moveE exM exP 2 7 = 12 := by decide +kernel
  exact ⟨h, by unfold moveM; rw [if_neg (by rw [h]; decide)]⟩
theorem ex_mv4 : moveE exM exP 3 7 = 11 ∧ moveM exM exP 3 7 = Mt.zero := by
  have h : moveE exM exP 3 7 = 11 := by decide +kernel
  exact ⟨h, by unfold moveM; rw [if_neg (by rw [h]; decide)]⟩
theorem ex_gr1 : grantE exA appS 7 = 0 ∧ grantM exA appS 7 = exB := by
  have h : grantE exA appS 7 = 0 := by decide +kernel
  exact ⟨h, by unfold grantM; rw [if_pos h]; rfl⟩
theorem ex_gr2 : grantE exB appS 8 = 9 ∧ grantM exB appS 8 = Mt.zero := by
  have h : grantE exB appS 8 = 9 := by decide +kernel
  exact ⟨h, by unfold grantM; rw [if_neg (by rw [h]; decide)]⟩
theorem ex_fm : fmB exB = true := by decide +kernel
theorem itoa_one {k : Nat} (h : k < 10) : Lib.itoa (k : Int) = [c8 k] := by rw [itoa_pos (by omega)]; exact dec_ten h
theorem ex_text : textL exB = exT := by
  have h5 : Lib.itoa 5 = [53] := itoa_one (k := 5) (by decide)
  have h1 : Lib.itoa 1 = [49] := itoa_one (k := 1) (by decide)
  have h0 : Lib.itoa 0 = [48] := itoa_one (k := 0) (by decide)
  have h7 : Lib.itoa 7 = [55] := itoa_one (k := 7) (by decide)
  have h20 : Lib.itoa 20 = [50, 48] := by
    rw [itoa_pos (by decide)]
    show Lib.decDigits 20 = _
    rw [dec_more (by decide), dec_ten (by decide)]
    rfl
  simp only [textL, lineL, headL, numsL, rtsL, lmsL, exB, List.flatMap_cons, List.flatMap_nil, h5, h1, h0, h7, h20]
  rfl
theorem ex_parse : parseOk exT = true ∧ looseM exT = exB := by
  have := parse_text ex_fm
  rwa [ex_text] at this
theorem ex_has7 : hasB exB.rs appS 7 = true := by decide +kernel
theorem ex_has6 : hasB exB.rs appS 6 = false := by decide +kernel
theorem ex_pc : pcB exP = true := by decide +kernel
theorem ex_pcz : pcB ⟨⟨#[]⟩, [], []⟩ = false := by decide +kernel

/-- The posts, written out. -/
def Lit (w : World) (E : Int) (id : ByteArray) (o : Int) (n1 : Nat) (pr : ByteArray) (st : Int) (n2 n3 n4 : Nat) (m : Mt) (e : Ending) (w' : World) : Prop :=
  ∃ p1 q1 p2 q2 p3 q3 p4 q4 lv, e = .returned (.tuple #[.agg #[.string id, .int .i64 o, .slice p1 n1 q1, .string pr, .int .i64 st, .slice p2 n2 q2, .slice p3 n3 q3, .slice p4 n4 q4], .int .i64 E]) ∧ MtAt w' w'.heap.size m ⟨p1, q1, p2, q2, p3, q3, p4, q4, lv⟩ ∧ Below w.heap.size w w'
theorem lit_of {w w' : World} {E : Int} {m : Mt} {e : Ending} (h : MtPost w E m e w') : Lit w E m.id m.o m.cs.length m.pr m.st m.mv.length m.rs.length m.ls.length m e w' := by
  obtain ⟨x, he, hm, hb⟩ := h
  exact ⟨x.a1, x.c1, x.a2, x.c2, x.a3, x.c3, x.a4, x.c4, x.lv, he, hm, hb⟩
theorem sml_ex : Sml exM ∧ Sml exA ∧ Sml exB := ⟨by unfold Sml; decide, by unfold Sml; decide, by unfold Sml; decide⟩
theorem sml_exP : SmlP exP := by unfold SmlP; decide
section
variable {w : World} {p1 p2 p3 p4 : Option Addr} {q1 q2 q3 q4 : Nat} {lv : List LmV} {y : PcX}
theorem hmv1 (h : MtAt w w.heap.size exM ⟨p1, q1, p2, q2, p3, q3, p4, q4, lv⟩) (hp : PcAt w w.heap.size exP y) :
    Calls Tryz.prog 19 #[.agg #[.string ⟨#[109, 49]⟩, .int .i64 5, .slice p1 2 q1, .string ⟨#[111, 108, 100]⟩, .int .i64 0, .slice p2 0 q2, .slice p3 0 q3, .slice p4 0 q4], .agg (pcC exP y), .int .i64 1, .int .i64 7] w
      (Lit w 0 ⟨#[109, 49]⟩ 5 2 ⟨#[111, 108, 100]⟩ 1 1 0 0 exA) := by
  have k := move_any w w.heap.size exM _ h (Nat.le_refl _) sml_ex.1 exP y hp sml_exP 1 7
  rw [ex_mv1.1, ex_mv1.2] at k
  exact k.mono fun e w' h => lit_of h
theorem hmv2 (h : MtAt w w.heap.size exA ⟨p1, q1, p2, q2, p3, q3, p4, q4, lv⟩) (hp : PcAt w w.heap.size exP y) :
    Calls Tryz.prog 19 #[.agg #[.string ⟨#[109, 49]⟩, .int .i64 5, .slice p1 2 q1, .string ⟨#[111, 108, 100]⟩, .int .i64 1, .slice p2 1 q2, .slice p3 0 q3, .slice p4 0 q4], .agg (pcC exP y), .int .i64 2, .int .i64 6] w
      (Lit w 24 ⟨#[]⟩ 0 0 ⟨#[]⟩ 0 0 0 0 Mt.zero) := by
  have k := move_any w w.heap.size exA _ h (Nat.le_refl _) sml_ex.2.1 exP y hp sml_exP 2 6
  rw [ex_mv2.1, ex_mv2.2] at k
  exact k.mono fun e w' h => lit_of h
theorem hmv3 (h : MtAt w w.heap.size exM ⟨p1, q1, p2, q2, p3, q3, p4, q4, lv⟩) (hp : PcAt w w.heap.size exP y) :
    Calls Tryz.prog 19 #[.agg #[.string ⟨#[109, 49]⟩, .int .i64 5, .slice p1 2 q1, .string ⟨#[111, 108, 100]⟩, .int .i64 0, .slice p2 0 q2, .slice p3 0 q3, .slice p4 0 q4], .agg (pcC exP y), .int .i64 2, .int .i64 7] w
      (Lit w 12 ⟨#[]⟩ 0 0 ⟨#[]⟩ 0 0 0 0 Mt.zero) := by
  have k := move_any w w.heap.size exM _ h (Nat.le_refl _) sml_ex.1 exP y hp sml_exP 2 7
  rw [ex_mv3.1, ex_mv3.2] at k
  exact k.mono fun e w' h => lit_of h
theorem hmv4 (h : MtAt w w.heap.size exM ⟨p1, q1, p2, q2, p3, q3, p4, q4, lv⟩) (hp : PcAt w w.heap.size exP y) :
    Calls Tryz.prog 19 #[.agg #[.string ⟨#[109, 49]⟩, .int .i64 5, .slice p1 2 q1, .string ⟨#[111, 108, 100]⟩, .int .i64 0, .slice p2 0 q2, .slice p3 0 q3, .slice p4 0 q4], .agg (pcC exP y), .int .i64 3, .int .i64 7] w
      (Lit w 11 ⟨#[]⟩ 0 0 ⟨#[]⟩ 0 0 0 0 Mt.zero) := by
  have k := move_any w w.heap.size exM _ h (Nat.le_refl _) sml_ex.1 exP y hp sml_exP 3 7
  rw [ex_mv4.1, ex_mv4.2] at k
  exact k.mono fun e w' h => lit_of h
theorem hgr1 (h : MtAt w w.heap.size exA ⟨p1, q1, p2, q2, p3, q3, p4, q4, lv⟩) :
    Calls Tryz.prog 17 #[.agg #[.string ⟨#[109, 49]⟩, .int .i64 5, .slice p1 2 q1, .string ⟨#[111, 108, 100]⟩, .int .i64 1, .slice p2 1 q2, .slice p3 0 q3, .slice p4 0 q4], .string ⟨#[97, 112, 112, 101, 97, 108]⟩, .int .i64 7] w
      (Lit w 0 ⟨#[109, 49]⟩ 5 2 ⟨#[111, 108, 100]⟩ 1 1 1 0 exB) := by
  have k := grant_any w w.heap.size exA _ h (Nat.le_refl _) sml_ex.2.1 appS (by decide) 7
  rw [ex_gr1.1, ex_gr1.2] at k
  exact k.mono fun e w' h => lit_of h
theorem hgr2 (h : MtAt w w.heap.size exB ⟨p1, q1, p2, q2, p3, q3, p4, q4, lv⟩) :
    Calls Tryz.prog 17 #[.agg #[.string ⟨#[109, 49]⟩, .int .i64 5, .slice p1 2 q1, .string ⟨#[111, 108, 100]⟩, .int .i64 1, .slice p2 1 q2, .slice p3 1 q3, .slice p4 0 q4], .string ⟨#[97, 112, 112, 101, 97, 108]⟩, .int .i64 8] w
      (Lit w 9 ⟨#[]⟩ 0 0 ⟨#[]⟩ 0 0 0 0 Mt.zero) := by
  have k := grant_any w w.heap.size exB _ h (Nat.le_refl _) sml_ex.2.2 appS (by decide) 8
  rw [ex_gr2.1, ex_gr2.2] at k
  exact k.mono fun e w' h => lit_of h
theorem htx1 (ht : Tbs w) (h : MtAt w w.heap.size exB ⟨p1, q1, p2, q2, p3, q3, p4, q4, lv⟩) :
    Calls Tryz.prog 11 #[.agg #[.string ⟨#[109, 49]⟩, .int .i64 5, .slice p1 2 q1, .string ⟨#[111, 108, 100]⟩, .int .i64 1, .slice p2 1 q2, .slice p3 1 q3, .slice p4 0 q4]] w
      fun e w' => e = .returned (.tuple #[.string (bs exT), .int .i64 0]) ∧ Below w.heap.size w w' := by
  have k := text_any w ht w.heap.size exB _ h (Nat.le_refl _) sml_ex.2.2
  unfold TextPost at k
  rw [ex_fm, ex_text] at k
  exact k
theorem hpa1 (ht : Tbs w) : Calls Tryz.prog 13 #[.string (bs exT)] w (Lit w 0 ⟨#[109, 49]⟩ 5 2 ⟨#[111, 108, 100]⟩ 1 1 1 0 exB) := by
  have k := parse_any w ht exT (by decide) 0 exB ⟨fun _ => ⟨rfl, ex_parse.2.symm⟩, fun h => by rw [ex_parse.1] at h; cases h⟩
  exact k.mono fun e w' h => lit_of h
theorem hha (d : Int) (q : Bool) (hq : hasB exB.rs appS d = q) (h : MtAt w w.heap.size exB ⟨p1, q1, p2, q2, p3, q3, p4, q4, lv⟩) :
    Calls Tryz.prog 16 #[.agg #[.string ⟨#[109, 49]⟩, .int .i64 5, .slice p1 2 q1, .string ⟨#[111, 108, 100]⟩, .int .i64 1, .slice p2 1 q2, .slice p3 1 q3, .slice p4 0 q4], .string ⟨#[97, 112, 112, 101, 97, 108]⟩, .int .i64 d] w
      fun e w' => e = .returned (.bool q) ∧ Below w.heap.size w w' := by
  have k := has_any w w.heap.size exB _ h.rs (Nat.le_refl _) (by decide) appS d
  rw [hq] at k
  exact k
theorem hpr1 (hp : PcAt w w.heap.size exP y) : Calls Tryz.prog 23 #[.agg (pcC exP y)] w fun e w' => e = .returned (.bool true) ∧ Below w.heap.size w w' := by
  have k := proper_p w w.heap.size exP y hp (Nat.le_refl _) sml_exP
  rw [ex_pc] at k
  exact k
theorem hpr0 : Calls Tryz.prog 23 #[.agg #[.string ⟨#[]⟩, .slice none 0 0, .slice none 0 0]] w fun e w' => e = .returned (.bool false) ∧ Below w.heap.size w w' := by
  have k := proper_p w w.heap.size ⟨⟨#[]⟩, [], []⟩ ⟨none, 0, none, 0⟩ ⟨fun i s h => by simp at h, fun i s h => by simp at h, by decide, fun s h => by simp at h⟩ (Nat.le_refl _) (by unfold SmlP; decide)
  rw [ex_pcz] at k
  exact k
end
end Go.Proofs.YtgfahifdmacmhaaGreatDoor
