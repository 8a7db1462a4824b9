/- The journal's texts: the text of records. -/
import Derived.Test.YtfjejfgdnjnflaaGreatDoorJh
namespace Go.Proofs.YtfjejfgdnjnflaaGreatDoor
open Go.RowKit Go.Shelf

/-- A slice that reads as a list of texts. -/
def StrsAt (w : World) (B : Nat) (A : Option Addr) (l : List (List UInt8)) : Prop :=
  ∀ (i : Nat) (s : List UInt8), l[i]? = some s → ∃ g off, A = some ⟨g, off, none⟩ ∧ g < B ∧ w.cell? ⟨g, off + i, none⟩ = some (.string (bs s))
theorem StrsAt.below {w w' : World} {B : Nat} {A : Option Addr} {l : List (List UInt8)} (h : StrsAt w B A l) (hb : Below B w w') : StrsAt w' B A l := fun i s hi => by
  obtain ⟨g, off, hA, hg, hc⟩ := h i s hi
  exact ⟨g, off, hA, hg, (hb.cell (p := ⟨g, off + i, none⟩) hg).trans hc⟩
theorem StrsAt.nil (w : World) (B : Nat) (A : Option Addr) : StrsAt w B A [] := fun i s hi => by simp at hi
theorem StrsAt.wide {w : World} {B B' : Nat} {A : Option Addr} {l : List (List UInt8)} (h : StrsAt w B A l) (hB : B ≤ B') : StrsAt w B' A l := fun i s hi => by
  obtain ⟨g, off, hA, hg, hc⟩ := h i s hi
  exact ⟨g, off, hA, by omega, hc⟩
/-- How many bytes a list of texts has. -/
def total (l : List (List UInt8)) : Nat := (l.map List.length).sum
theorem total_le {l : List (List UInt8)} {r : List UInt8} (h : r ∈ l) : r.length ≤ total l := by
  induction l with
  | nil => simp at h
  | cons x l ih =>
    simp only [total, List.map_cons, List.sum_cons] at *
    rcases List.mem_cons.1 h with rfl | h
    · omega
    · have := ih h; omega
theorem dec_short : ∀ {n : Nat}, n ≤ 9223372036854775807 → (Lib.decDigits n).length ≤ 19 := fun {n} h => (dec_pad (w := 18) (n := n) (Nat.lt_of_le_of_lt h (by decide))).1
theorem textR_take (l : List (List UInt8)) {k : Nat} {r : List UInt8} (h : l[k]? = some r) : textR (l.take (k + 1)) = textR (l.take k) ++ recL r := by
  obtain ⟨h1, h2⟩ := List.getElem?_eq_some_iff.1 h
  rw [List.take_succ_eq_append_getElem h1, h2, textR_app]
  simp [textR]
theorem textR_len : ∀ (l : List (List UInt8)), total l ≤ 9223372036854775807 → (textR l).length ≤ total l + 20 * l.length
  | [], _ => by simp [textR]
  | r :: l, h => by
    have e : textR (r :: l) = recL r ++ textR l := by simp [textR]
    have e2 : total (r :: l) = r.length + total l := by simp [total]
    rw [e2] at h
    have ih := textR_len l (by omega)
    have hd := dec_short (n := r.length) (by omega)
    rw [e, e2, List.length_append]
    have e3 : (recL r).length = (Lib.decDigits r.length).length + (1 + r.length) := by unfold recL; rw [itoa_nat]; simp; omega
    rw [e3, List.length_cons]
    omega
theorem total_app (a b : List (List UInt8)) : total (a ++ b) = total a + total b := by simp [total]
theorem total_take (l : List (List UInt8)) (k : Nat) : total (l.take k) ≤ total l := by
  have h := congrArg total (List.take_append_drop k l)
  rw [total_app] at h
  omega

set_option maxRecDepth 100000 in
set_option maxHeartbeats 4000000 in
theorem text_any (w : World) (ht : Tbs w) (B : Nat) (A : Option Addr) (l : List (List UInt8)) (c : Nat) (h : StrsAt w B A l) (hB : B ≤ w.heap.size) (hn : l.length ≤ 1000000) (htot : total l ≤ 100000000) :
    Calls Tryz.prog 48 #[.slice A l.length c] w fun e w' => e = .returned (.string (bs (textR l))) ∧ Below w.heap.size w w' := by
  have k0 := Blk.new w 58 #[.pointer none, .slice none 0 0]
  have hb := (Below.refl w.heap.size w).alloc (Nat.le_refl _) (.cells #[.pointer none, .slice none 0 0] 58)
  have b0 := Bld.fresh (B := w.heap.size) (Nat.le_refl _) k0
  obtain ⟨R, hR⟩ : ∃ R, textR l = R := ⟨_, rfl⟩
  rw [hR]
  have HR := Lib.hid hR
  have HA := Lib.hid h
  have HT := Lib.hid ht
  clear k0 hR h ht
  go_enter Tryz.func48, Tryz.ntmps48
  go_upto_block 0 with fail
  generalize w.alloc (.cells #[.pointer none, .slice none 0 0] 58) = w2 at *
  go_wp2_with fail
  go_loopw [8] (fun i wr => ∃ k : Nat, k ≤ l.length ∧ i = .int .i64 (k : Int) ∧ Bld w.heap.size w.heap.size (textR (l.take k)) wr ∧ Below w.heap.size w wr) (fun i _ => l.length - (intOf i).toNat)
  case atStart => exact ⟨0, Nat.zero_le _, rfl, b0, hb⟩
  case round =>
    clear b0 hb
    obtain ⟨k, hk, rfl, b0, hb⟩ := hrel
    by_cases hlt : k < l.length
    · obtain ⟨r, hr⟩ : ∃ r, l[k]? = some r := ⟨_, List.getElem?_eq_getElem hlt⟩
      obtain ⟨g, off, hA, hg, hc⟩ := (HA.out.below (hb.mono hB)) k r hr
      subst hA
      have hrl : r.length ≤ 100000000 := by
        have := total_le (List.mem_of_getElem? hr)
        omega
      have htk := textR_take l hr
      have hlen := textR_len (l.take (k + 1)) (by have := total_take l (k + 1); omega)
      have h3 := total_take l (k + 1)
      have h4 : (l.take (k + 1)).length ≤ l.length := by rw [List.length_take]; omega
      rw [htk, List.length_append] at hlen
      have hsz := bs_size r
      have hit := fun W h => itoa_any W h r.length (by omega)
      have hd := dec_short (n := r.length) (by omega)
      have hrec : recL r = Lib.decDigits r.length ++ [58] ++ r := by unfold recL; rw [itoa_nat]; simp
      generalize Lib.decDigits r.length = D at *
      have a1 : ∀ W : World, (Op.stringOp .add (bs D) ⟨#[58]⟩).run Tryz.prog W = .ok (.string (bs (D ++ [58]))) W := sum_bs D [58] (by simp; omega)
      have a2 := sum_bs (D ++ [58]) r (by simp; omega)
      rw [← hrec] at a2
      have hw := fun W (hbb : Bld w.heap.size w.heap.size (textR (l.take k)) W) (hs : w.heap.size ≤ W.heap.size) => writeString_any w.heap.size w.heap.size (textR (l.take k)) (recL r) W hbb (by omega) hs
      rw [← htk] at hw
      generalize recL r = Q at *
      have HI := Lib.hid hit
      have HW := Lib.hid hw
      have HRR := Lib.hid hr
      have hi0 : (0 : Int) ≤ (k : Int) := by omega
      have hi1 : (k : Int) < (l.length : Int) := by omega
      have BB := Lib.hid b0
      clear hit hw htk hlen h3 h4 hr hrec b0
      go_wp2_with fail
      refine (HI.out _ (HT.out.below hb)).mono ?_
      rintro e w3 ⟨rfl, b3⟩
      have b4 := BB.out.below b3
      have hb4 := hb.trans (b3.mono hb.size)
      clear b3 BB hb
      go_wp2_with fail
      refine (HW.out _ b4 hb4.size).mono ?_
      rintro e w5 ⟨rfl, b5, b6⟩
      have hb5 := hb4.trans b6
      clear b4 hb4 b6 a1 a2
      go_wp2
      go_roundw
      case rel => exact ⟨k + 1, by omega, by go_num, b5, hb5⟩
      case measure => simp [intOf]; omega
    · obtain rfl : k = l.length := by omega
      rw [List.take_length] at b0
      rw [HR.out] at b0
      have hst := string_any w.heap.size w.heap.size R wr b0 hb.size
      have HST := Lib.hid hst
      clear hst b0
      go_wp2_with fail
      refine HST.out.mono ?_
      rintro e w3 ⟨rfl, b3⟩
      have hb3 := hb.trans b3
      go_wp2
      go_ret
      exact ⟨rfl, hb3⟩
end Go.Proofs.YtfjejfgdnjnflaaGreatDoor
