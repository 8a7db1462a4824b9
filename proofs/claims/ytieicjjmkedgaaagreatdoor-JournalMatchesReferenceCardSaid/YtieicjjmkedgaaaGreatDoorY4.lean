/- Part 4 of what the laws of this seat stand on: Jf, Jh, Ji, Jk, Jn, Jo, Jt, Jv, Jw, Jx, Ju, Jz. -/
import Derived.Test.YtieicjjmkedgaaaGreatDoorY3
import Derived.Shelf.Strings.Builder1
import Derived.Deep.RegionWith
import Derived.Defers
import Derived.Deep.AppendLies

/- The journal's texts: the count of a head. -/
namespace Go.Proofs.YtieicjjmkedgaaaGreatDoor
open Go.RowKit Go.Shelf

theorem beq_bs {a b : List UInt8} (h : a ≠ b) : ((bs a).toList == (bs b).toList) = false := by
  rw [Lib.toList_data, Lib.toList_data]
  exact beq_eq_false_iff_ne.2 h
theorem sl_mid (l : List UInt8) (a b : Nat) (h : a ≤ b) (h2 : b ≤ l.length) (W : World) : (Instr.slice 9 (.string (bs l)) (some (.int .i64 (a : Int))) (some (.int .i64 (b : Int))) none).run Tryz.prog W = .ok (.string (bs ((l.drop a).take (b - a)))) W := by
  rw [run_slice_string (P := Tryz.prog) (w := W) 9 _ .i64 .i64 (a : Int) (b : Int) (by kernel_rfl) (by omega) (by omega) (by rw [bs_size]; omega)]
  rw [Int.toNat_natCast, Int.toNat_natCast, bs_extract]
theorem atoi_yes (w : World) (l : List UInt8) (n : Int) (hl : l.length ≤ 18) (h : Lib.atoi l = some n) : Calls Tryz.prog 32 #[.string (bs l)] w fun e w' => e = .returned (.tuple #[.int .i64 n, .nilIface]) ∧ Below w.heap.size w w' :=
  (sh_strconv_Atoi (bs l) n (by rw [bs_size]; exact hl) h w).mono fun _ _ ⟨he, _, hw⟩ => ⟨he, hw ▸ Go.Joins.below_bytesWorld _ _ _ _ (Nat.le_refl _)⟩
/-- Behind a call that makes an error: some error, and nothing that was there has turned. -/
def ErrPost (w : World) (n : Int) (e : Ending) (w' : World) : Prop := ∃ t v, e = .returned (.tuple #[.int .i64 n, .iface t v]) ∧ Below w.heap.size w w'
theorem atoi_no (w : World) (ht : Tbs w) (l : List UInt8) (hl : l.length ≤ 18) (h : Lib.atoi l = none) : Calls Tryz.prog 32 #[.string (bs l)] w (ErrPost w 0) := by
  obtain ⟨ev, hv, hev⟩ := ht.syn
  exact (sh_strconv_Atoi_err (bs l) (by rw [bs_size]; exact hl) h ev w hv hev).mono fun _ _ ⟨N, he, _, _, hb⟩ => ⟨_, _, he, hb⟩

set_option maxRecDepth 100000 in
set_option maxHeartbeats 2000000 in
theorem count_any (w : World) (ht : Tbs w) (place : Nat) (hp : place < 100000000) (l : List UInt8) (hl : l.length = 64) (room : Nat) (hr : room ≤ 4000) :
    Calls Tryz.prog 31 #[.int .i64 (place : Int), .string (bs l), .int .i64 (room : Int)] w fun e w' => e = .returned (.int .i64 (cntL place l room)) ∧ Below w.heap.size w w' := by
  obtain ⟨r, hrr⟩ : ∃ r, cntL place l room = r := ⟨_, rfl⟩
  rw [hrr]
  unfold cntL at hrr
  have hz := fun W => zero_any W
  have HZ := Lib.hid hz
  have HT := Lib.hid ht
  clear hz ht
  by_cases h0 : l = zeroL
  · subst h0
    rw [if_pos rfl] at hrr
    subst hrr
    generalize zeroL = Z at *
    go_enter Tryz.func31, Tryz.ntmps31
    go_wp2_with fail
    refine (HZ.out _).mono ?_
    rintro e w1 ⟨rfl, b1⟩
    go_wp2
    go_ret
    exact ⟨rfl, b1⟩
  rw [if_neg h0] at hrr
  have q0 := beq_bs h0
  have s1 : ∀ W : World, (Instr.slice 9 (.string (bs l)) (some (.int .i64 16)) (some (.int .i64 24)) none).run Tryz.prog W = .ok (.string (bs ((l.drop 16).take 8))) W := sl_mid l 16 24 (by decide) (by omega)
  have hl8 : ((l.drop 16).take 8).length ≤ 18 := by rw [List.length_take]; omega
  clear h0
  generalize zeroL = Z at *
  cases ha : Lib.atoi ((l.drop 16).take 8) with
  | none =>
    rw [ha] at hrr
    subst hrr
    have hno := fun W h => atoi_no W h _ hl8 ha
    generalize (l.drop 16).take 8 = D at *
    have HNO := Lib.hid hno
    clear hno ha hl8 hl
    go_enter Tryz.func31, Tryz.ntmps31
    go_wp2_with fail
    refine (HZ.out _).mono ?_
    rintro e w1 ⟨rfl, b1⟩
    go_wp2_with fail
    refine (HNO.out _ (HT.out.below b1)).mono ?_
    rintro e w2 ⟨t, v, rfl, b2⟩
    have b3 := b1.trans (b2.mono b1.size)
    clear b1 b2 q0 s1
    go_wp2
    go_ret
    exact ⟨rfl, b3⟩
  | some n =>
    rw [ha] at hrr
    simp only at hrr
    have hye := fun W => atoi_yes W _ n hl8 ha
    generalize (l.drop 16).take 8 = D at *
    have HYE := Lib.hid hye
    clear hye ha hl8
    by_cases h1 : 0 ≤ n
    · by_cases h2 : n ≤ room
      · obtain ⟨k, rfl⟩ := Int.eq_ofNat_of_zero_le h1
        have hk : k ≤ 4000 := by omega
        have hhd := fun W h => head_place_any W h place hp k (by omega)
        rw [Int.toNat_natCast] at hrr
        generalize headL place k = H at *
        have HHD := Lib.hid hhd
        clear hhd
        by_cases h3 : H = l
        · rw [if_pos ⟨h1, h2, h3⟩] at hrr
          subst h3 hrr
          have HL := Lib.hid hl
          clear hl
          go_enter Tryz.func31, Tryz.ntmps31
          go_wp2_with fail
          refine (HZ.out _).mono ?_
          rintro e w1 ⟨rfl, b1⟩
          go_wp2_with fail
          refine (HYE.out _).mono ?_
          rintro e w2 ⟨rfl, b2⟩
          have b3 := b1.trans (b2.mono b1.size)
          clear b1 b2 q0 s1
          go_wp2_with fail
          refine (HHD.out _ (HT.out.below b3)).mono ?_
          rintro e w3 ⟨rfl, b4⟩
          have b5 := b3.trans (b4.mono b3.size)
          go_wp2
          go_ret
          exact ⟨rfl, b5⟩
        · rw [if_neg (fun h => h3 h.2.2)] at hrr
          subst hrr
          have q3 := beq_bs h3
          have HL := Lib.hid hl
          clear hl h3
          go_enter Tryz.func31, Tryz.ntmps31
          go_wp2_with fail
          refine (HZ.out _).mono ?_
          rintro e w1 ⟨rfl, b1⟩
          go_wp2_with fail
          refine (HYE.out _).mono ?_
          rintro e w2 ⟨rfl, b2⟩
          have b3 := b1.trans (b2.mono b1.size)
          clear b1 b2 q0 s1
          go_wp2_with fail
          refine (HHD.out _ (HT.out.below b3)).mono ?_
          rintro e w3 ⟨rfl, b4⟩
          have b5 := b3.trans (b4.mono b3.size)
          go_wp2
          go_ret
          exact ⟨rfl, b5⟩
      · rw [if_neg (fun h => h2 h.2.1)] at hrr
        subst hrr
        have d1 : decide (n < 0) = false := decide_eq_false (by omega)
        have d2 : decide ((room : Int) < n) = true := decide_eq_true (by omega)
        have HL := Lib.hid hl
        clear hl h1 h2
        go_enter Tryz.func31, Tryz.ntmps31
        go_wp2_with fail
        refine (HZ.out _).mono ?_
        rintro e w1 ⟨rfl, b1⟩
        go_wp2_with fail
        refine (HYE.out _).mono ?_
        rintro e w2 ⟨rfl, b2⟩
        have b3 := b1.trans (b2.mono b1.size)
        clear b1 b2 q0 s1
        go_wp2
        go_ret
        exact ⟨rfl, b3⟩
    · rw [if_neg (fun h => h1 h.1)] at hrr
      subst hrr
      have d1 : decide (n < 0) = true := decide_eq_true (by omega)
      have HL := Lib.hid hl
      clear hl h1
      go_enter Tryz.func31, Tryz.ntmps31
      go_wp2_with fail
      refine (HZ.out _).mono ?_
      rintro e w1 ⟨rfl, b1⟩
      go_wp2_with fail
      refine (HYE.out _).mono ?_
      rintro e w2 ⟨rfl, b2⟩
      have b3 := b1.trans (b2.mono b1.size)
      clear b1 b2 q0 s1
      go_wp2
      go_ret
      exact ⟨rfl, b3⟩
end Go.Proofs.YtieicjjmkedgaaaGreatDoor

/- strings.Builder at this program: WriteString (the shelf's walk, turned to this program's numbers), String. -/
namespace Go.Proofs.YtieicjjmkedgaaaGreatDoor
open Go.RowKit Go.Shelf

/-- A builder of the call's own that holds some bytes. -/
def Bld (B b : Nat) (l : List UInt8) (w : World) : Prop := Lib.IsBuilder 62 5 B b (Lib.byteCells l) w
theorem Bld.fresh {B b : Nat} {w : World} (hB : B ≤ b) (h : Blk w b 62 #[.pointer none, .slice none 0 0]) : Bld B b [] w :=
  .inl ⟨hB, _, h, World.ownsRow_nil _ _ _ _, by simp [Value.ownBlock]⟩
theorem BuilderAt.below {B b : Nat} {p : Value} {l : List Value} {w w' : World} (h : Lib.BuilderAt 62 5 B b p l w) (hb : Below w.heap.size w w') : Lib.BuilderAt 62 5 B b p l w' := by
  obtain ⟨hB, v, hbk, hown, hne⟩ := h
  have hlt : b < w.heap.size := by
    rcases Nat.lt_or_ge b w.heap.size with h' | h'
    · exact h'
    · simp [Array.getElem?_eq_none h'] at hbk
  exact ⟨hB, v, (hb.block b hlt).trans hbk, (Only.of_below hb (fun _ => False)).owns hown (fun _ _ h => h), hne⟩
theorem Bld.below {B b : Nat} {l : List UInt8} {w w' : World} (h : Bld B b l w) (hb : Below w.heap.size w w') : Bld B b l w' :=
  h.imp (fun x => BuilderAt.below x hb) (fun x => BuilderAt.below x hb)
theorem sizeBuilder : (Tryz.prog.info? 62).map (·.size) = some 2 := by kernel_rfl
theorem liesBuilder : liesAt Tryz.prog Tryz.prog.depth 62 (2 / Tryz.prog.cellsOf 62) 0 62 1 = true := by kernel_rfl
set_option maxHeartbeats 1000000 in
set_option maxRecDepth 100000 in
theorem copyCheck_used (b : Nat) (w : World) (h0 : w.cell? ⟨b, 0, none⟩ = some (.pointer (some ⟨b, 0, none⟩))) :
    Calls Tryz.prog 70 #[.pointer (some ⟨b, 0, none⟩)] w fun e w' => e = .returned (.tuple #[]) ∧ w' = w := by
  obtain ⟨j, hj, _⟩ := Option.map_eq_some_iff.1 sizeBuilder
  go_enter Tryz.func70, Tryz.ntmps70
  go_wp2
  rw [Lib.run_neq_ptr_same w _ Tryz.underlying60 hj]
  go_wp2
  go_end0
  exact ⟨rfl, rfl⟩

set_option maxHeartbeats 1000000 in
set_option maxRecDepth 100000 in
theorem copyCheck_fresh (b : Nat) (w : World) (h0 : w.cell? ⟨b, 0, none⟩ = some (.pointer none)) (hsh : w.shape? b = some (62, 2)) (hfz : w.frozen? ⟨b, 0, none⟩ = false) :
    Calls Tryz.prog 70 #[.pointer (some ⟨b, 0, none⟩)] w fun e w' => e = .returned (.tuple #[]) ∧ w' = w.setCell ⟨b, 0, none⟩ (.pointer (some ⟨b, 0, none⟩)) := by
  obtain ⟨j, hj, hjs⟩ := Option.map_eq_some_iff.1 sizeBuilder
  go_enter Tryz.func70, Tryz.ntmps70
  go_wp2
  rw [Lib.run_to_unsafe w ⟨b, 0, none⟩ Tryz.underlying60 Tryz.underlying116 hj (by rw [hjs]; decide) hsh (Nat.zero_lt_succ 1)]
  simp only [Result.andThen]
  rw [Oper.upon_value]
  go_wp2
  rw [run_callFunc_extern Tryz.func91 (by kernel_rfl) (by kernel_rfl) (by kernel_rfl) (e := Extern.AbiNoEscape.same) (by kernel_rfl)]
  rw [Lib.run_noEscape]
  simp only [Result.andThen]
  rw [Oper.upon_value]
  go_wp2
  rw [Lib.run_from_unsafe w ⟨b, 0, none⟩ Tryz.underlying116 Tryz.underlying60 hj hsh liesBuilder]
  simp only [Result.andThen]
  rw [Oper.upon_value]
  go_wp2
  go_end0
  exact ⟨rfl, rfl⟩

theorem copyCheck_any (B b : Nat) (l : List Value) (w : World) (h : Lib.IsBuilder 62 5 B b l w) :
    Calls Tryz.prog 70 #[.pointer (some ⟨b, 0, none⟩)] w fun e w' => e = .returned (.tuple #[]) ∧ (Lib.BuilderAt 62 5 B b (.pointer (some ⟨b, 0, none⟩)) l w' ∧ Below B w w') := by
  rcases h with h | h
  · refine (copyCheck_fresh b w h.cell0 h.shape h.frozen0).mono ?_
    rintro e w' ⟨rfl, rfl⟩
    exact ⟨rfl, h.used _, (Below.refl B w).setCell (p := ⟨b, 0, none⟩) h.1 _⟩
  · refine (copyCheck_used b w h.cell0).mono ?_
    rintro e w' ⟨rfl, rfl⟩
    exact ⟨rfl, h, Below.refl B _⟩

set_option maxHeartbeats 1000000 in
set_option maxRecDepth 100000 in
theorem writeString_any (B b : Nat) (l : List UInt8) (s : List UInt8) (w : World) (h : Bld B b l w) (hlen : l.length + s.length ≤ 140737488355328) (hBw : B ≤ w.heap.size) :
    Calls Tryz.prog 34 #[.pointer (some ⟨b, 0, none⟩), .string (bs s)] w fun e w' => e = .returned (.tuple #[.int .i64 s.length, .nilIface]) ∧ Bld B b (l ++ s) w' ∧ Below B w w' := by
  obtain ⟨i0, hi, hz0, hz1, hz2⟩ := info_parts Tryz.infoByte
  have hss := bs_size s
  have hbl : (Lib.byteCells l).length = l.length := by simp [Lib.byteCells]
  go_enter Tryz.func34, Tryz.ntmps34
  go_wp2_with fail
  refine (copyCheck_any B b _ _ h).mono ?_
  rintro e w1 ⟨rfl, h1, hb1⟩
  obtain ⟨hB, v, hbk, hown, hne⟩ := h1
  have c0 : w1.cell? ⟨b, 0, none⟩ = some (.pointer (some ⟨b, 0, none⟩)) := by rw [Lib.cell_of_heap hbk]; rfl
  have c1 : w1.cell? ⟨b, 1, none⟩ = some v := by rw [Lib.cell_of_heap hbk]; rfl
  go_wp2_with (at_builtin; refine Lib.wpList_append_own_string _ rfl _ _ 49 9 rfl B 5 i0 Tryz.underlying49 Tryz.underlying9 hi hz0 hz1 hz2 _ _ _ rfl hown (bs s) rfl ?c3 ?c4 ?c5 ?_)
  case c3 => rw [hbl, hss]; unfold maxLen; omega
  case c4 => rw [hbl, hss]; omega
  case c5 => have := hb1.size; omega
  intro v' w2 hown' hgrow _
  have hlt : b < w1.heap.size := by
    rcases Nat.lt_or_ge b w1.heap.size with h' | h'
    · exact h'
    · simp [Array.getElem?_eq_none h'] at hbk
  have hb2 : w2.heap[b]? = some (.cells #[.pointer (some ⟨b, 0, none⟩), v] 62 (0, 0)) := by
    rw [hgrow.block b hlt (fun e => hne e.symm)]
    exact hbk
  have d0 : w2.cell? ⟨b, 0, none⟩ = some (.pointer (some ⟨b, 0, none⟩)) := by rw [Lib.cell_of_heap hb2]; rfl
  have d1 : w2.cell? ⟨b, 1, none⟩ = some v := by rw [Lib.cell_of_heap hb2]; rfl
  have f1 : w2.frozen? ⟨b, 1, none⟩ = false := Lib.frozen_of_heap hb2 1
  obtain ⟨ao, n', cap, rfl⟩ : ∃ ao n' cap, v' = .slice ao n' cap := by
    rcases hown'.2 with ⟨hv, _⟩ | ⟨g, cap, cur, hv, _⟩
    · exact ⟨_, _, _, hv⟩
    · exact ⟨_, _, _, hv⟩
  go_wp2
  go_ret2
  refine ⟨rfl, ?_, ?_⟩
  · have hcells : Lib.byteCells l ++ Lib.strCells (bs s) = Lib.byteCells (l ++ s) := by simp [Lib.byteCells, Lib.strCells, bs]
    unfold Bld
    rw [← hcells]
    exact .inr (Lib.BuilderAt.put (T := 62) (e := 5) hB hb2 (bs' := Lib.byteCells l ++ Lib.strCells (bs s)) (by rw [List.length_append, Lib.strCells_length]; first | exact hown' | (rw [hbl, hss]; exact hown')) (by decide))
  · exact (hb1.grown hgrow (by have := hb1.size; omega) (fun k hk => (hown.lt k hk).1)).setCell (p := ⟨b, 1, none⟩) hB _

theorem string_any (B b : Nat) (l : List UInt8) (w : World) (h : Bld B b l w) (hBw : B ≤ w.heap.size) :
    Calls Tryz.prog 36 #[.pointer (some ⟨b, 0, none⟩)] w fun e w' => e = .returned (.string (bs l)) ∧ Below B w w' := sh_Builder_String_any B b l w h hBw
end Go.Proofs.YtieicjjmkedgaaaGreatDoor

/- The journal's texts: the text of records. -/
namespace Go.Proofs.YtieicjjmkedgaaaGreatDoor
open Go.RowKit Go.Shelf

/-- A slice that reads as a list of texts. -/
def StrsAt (w : World) (B : Nat) (A : Option Addr) (l : List (List UInt8)) : Prop :=
  ∀ (i : Nat) (s : List UInt8), l[i]? = some s → ∃ g off, A = some ⟨g, off, none⟩ ∧ g < B ∧ w.cell? ⟨g, off + i, none⟩ = some (.string (bs s))
theorem StrsAt.below {w w' : World} {B : Nat} {A : Option Addr} {l : List (List UInt8)} (h : StrsAt w B A l) (hb : Below B w w') : StrsAt w' B A l := fun i s hi => by
  obtain ⟨g, off, hA, hg, hc⟩ := h i s hi
  exact ⟨g, off, hA, hg, (hb.cell (p := ⟨g, off + i, none⟩) hg).trans hc⟩
theorem StrsAt.nil (w : World) (B : Nat) (A : Option Addr) : StrsAt w B A [] := fun i s hi => by simp at hi
theorem StrsAt.wide {w : World} {B B' : Nat} {A : Option Addr} {l : List (List UInt8)} (h : StrsAt w B A l) (hB : B ≤ B') : StrsAt w B' A l := fun i s hi => by
  obtain ⟨g, off, hA, hg, hc⟩ := h i s hi
  exact ⟨g, off, hA, by omega, hc⟩
/-- How many bytes a list of texts has. -/
def total (l : List (List UInt8)) : Nat := (l.map List.length).sum
theorem total_le {l : List (List UInt8)} {r : List UInt8} (h : r ∈ l) : r.length ≤ total l := by
  induction l with
  | nil => simp at h
  | cons x l ih =>
    simp only [total, List.map_cons, List.sum_cons] at *
    rcases List.mem_cons.1 h with rfl | h
    · omega
    · have := ih h; omega
theorem dec_short : ∀ {n : Nat}, n ≤ 9223372036854775807 → (Lib.decDigits n).length ≤ 19 := fun {n} h => (dec_pad (w := 18) (n := n) (Nat.lt_of_le_of_lt h (by decide))).1
theorem textR_take (l : List (List UInt8)) {k : Nat} {r : List UInt8} (h : l[k]? = some r) : textR (l.take (k + 1)) = textR (l.take k) ++ recL r := by
  obtain ⟨h1, h2⟩ := List.getElem?_eq_some_iff.1 h
  rw [List.take_succ_eq_append_getElem h1, h2, textR_app]
  simp [textR]
theorem textR_len : ∀ (l : List (List UInt8)), total l ≤ 9223372036854775807 → (textR l).length ≤ total l + 20 * l.length
  | [], _ => by simp [textR]
  | r :: l, h => by
    have e : textR (r :: l) = recL r ++ textR l := by simp [textR]
    have e2 : total (r :: l) = r.length + total l := by simp [total]
    rw [e2] at h
    have ih := textR_len l (by omega)
    have hd := dec_short (n := r.length) (by omega)
    rw [e, e2, List.length_append]
    have e3 : (recL r).length = (Lib.decDigits r.length).length + (1 + r.length) := by unfold recL; rw [itoa_nat]; simp; omega
    rw [e3, List.length_cons]
    omega
theorem total_app (a b : List (List UInt8)) : total (a ++ b) = total a + total b := by simp [total]
theorem total_take (l : List (List UInt8)) (k : Nat) : total (l.take k) ≤ total l := by
  have h := congrArg total (List.take_append_drop k l)
  rw [total_app] at h
  omega

set_option maxRecDepth 100000 in
set_option maxHeartbeats 4000000 in
theorem text_any (w : World) (ht : Tbs w) (B : Nat) (A : Option Addr) (l : List (List UInt8)) (c : Nat) (h : StrsAt w B A l) (hB : B ≤ w.heap.size) (hn : l.length ≤ 1000000) (htot : total l ≤ 100000000) :
    Calls Tryz.prog 55 #[.slice A l.length c] w fun e w' => e = .returned (.string (bs (textR l))) ∧ Below w.heap.size w w' := by
  have k0 := Blk.new w 62 #[.pointer none, .slice none 0 0]
  have hb := (Below.refl w.heap.size w).alloc (Nat.le_refl _) (.cells #[.pointer none, .slice none 0 0] 62)
  have b0 := Bld.fresh (B := w.heap.size) (Nat.le_refl _) k0
  obtain ⟨R, hR⟩ : ∃ R, textR l = R := ⟨_, rfl⟩
  rw [hR]
  have HR := Lib.hid hR
  have HA := Lib.hid h
  have HT := Lib.hid ht
  clear k0 hR h ht
  go_enter Tryz.func55, Tryz.ntmps55
  go_upto_block 0 with fail
  generalize w.alloc (.cells #[.pointer none, .slice none 0 0] 62) = w2 at *
  go_wp2_with fail
  go_loopw [8] (fun i wr => ∃ k : Nat, k ≤ l.length ∧ i = .int .i64 (k : Int) ∧ Bld w.heap.size w.heap.size (textR (l.take k)) wr ∧ Below w.heap.size w wr) (fun i _ => l.length - (intOf i).toNat)
  case atStart => exact ⟨0, Nat.zero_le _, rfl, b0, hb⟩
  case round =>
    clear b0 hb
    obtain ⟨k, hk, rfl, b0, hb⟩ := hrel
    by_cases hlt : k < l.length
    · obtain ⟨r, hr⟩ : ∃ r, l[k]? = some r := ⟨_, List.getElem?_eq_getElem hlt⟩
      obtain ⟨g, off, hA, hg, hc⟩ := (HA.out.below (hb.mono hB)) k r hr
      subst hA
      have hrl : r.length ≤ 100000000 := by
        have := total_le (List.mem_of_getElem? hr)
        omega
      have htk := textR_take l hr
      have hlen := textR_len (l.take (k + 1)) (by have := total_take l (k + 1); omega)
      have h3 := total_take l (k + 1)
      have h4 : (l.take (k + 1)).length ≤ l.length := by rw [List.length_take]; omega
      rw [htk, List.length_append] at hlen
      have hsz := bs_size r
      have hit := fun W h => itoa_any W h r.length (by omega)
      have hd := dec_short (n := r.length) (by omega)
      have hrec : recL r = Lib.decDigits r.length ++ [58] ++ r := by unfold recL; rw [itoa_nat]; simp
      generalize Lib.decDigits r.length = D at *
      have a1 : ∀ W : World, (Op.stringOp .add (bs D) ⟨#[58]⟩).run Tryz.prog W = .ok (.string (bs (D ++ [58]))) W := sum_bs D [58] (by simp; omega)
      have a2 := sum_bs (D ++ [58]) r (by simp; omega)
      rw [← hrec] at a2
      have hw := fun W (hbb : Bld w.heap.size w.heap.size (textR (l.take k)) W) (hs : w.heap.size ≤ W.heap.size) => writeString_any w.heap.size w.heap.size (textR (l.take k)) (recL r) W hbb (by omega) hs
      rw [← htk] at hw
      generalize recL r = Q at *
      have HI := Lib.hid hit
      have HW := Lib.hid hw
      have HRR := Lib.hid hr
      have hi0 : (0 : Int) ≤ (k : Int) := by omega
      have hi1 : (k : Int) < (l.length : Int) := by omega
      have BB := Lib.hid b0
      clear hit hw htk hlen h3 h4 hr hrec b0
      go_wp2_with fail
      refine (HI.out _ (HT.out.below hb)).mono ?_
      rintro e w3 ⟨rfl, b3⟩
      have b4 := BB.out.below b3
      have hb4 := hb.trans (b3.mono hb.size)
      clear b3 BB hb
      go_wp2_with fail
      refine (HW.out _ b4 hb4.size).mono ?_
      rintro e w5 ⟨rfl, b5, b6⟩
      have hb5 := hb4.trans b6
      clear b4 hb4 b6 a1 a2
      go_wp2
      go_roundw
      case rel => exact ⟨k + 1, by omega, by go_num, b5, hb5⟩
      case measure => simp [intOf]; omega
    · obtain rfl : k = l.length := by omega
      rw [List.take_length] at b0
      rw [HR.out] at b0
      have hst := string_any w.heap.size w.heap.size R wr b0 hb.size
      have HST := Lib.hid hst
      clear hst b0
      go_wp2_with fail
      refine HST.out.mono ?_
      rintro e w3 ⟨rfl, b3⟩
      have hb3 := hb.trans b3
      go_wp2
      go_ret
      exact ⟨rfl, hb3⟩
end Go.Proofs.YtieicjjmkedgaaaGreatDoor

/- The journal's texts: parse. -/
namespace Go.Proofs.YtieicjjmkedgaaaGreatDoor
open Go.RowKit Go.Shelf

theorem below_dN {B : Nat} {w w1 : World} (h : Below B w w1) (n : Nat) : Below B w (w1.drewN n) := ⟨h.os, h.tape, h.output, h.size, h.block⟩
/-- strconv.Atoi at any text that is not too long. -/
theorem atoi_ok (w : World) (l : List UInt8) (n : Int) (hl : l.length ≤ 1000000) (h : Lib.atoiAll l = .ok n) : Calls Tryz.prog 32 #[.string (bs l)] w fun e w' => e = .returned (.tuple #[.int .i64 n, .nilIface]) ∧ Below w.heap.size w w' :=
  (sh_strconv_Atoi_ok (bs l) (by rw [bs_size]; omega) n h w).mono fun _ _ ⟨he, hw⟩ => ⟨he, by
    rcases hw with rfl | ⟨t, rfl⟩
    · exact Below.refl _ _
    · exact Go.Joins.below_bytesWorld _ _ _ _ (Nat.le_refl _)⟩
theorem atoi_bad (w : World) (ht : Tbs w) (l : List UInt8) (hl : l.length ≤ 1000000) (h : ∀ n, Lib.atoiAll l ≠ .ok n) : ∃ n, Calls Tryz.prog 32 #[.string (bs l)] w (ErrPost w n) := by
  cases ha : Lib.atoiAll l with
  | ok v => exact absurd ha (h v)
  | «syntax» =>
    obtain ⟨ev, hv, hev⟩ := ht.syn
    exact ⟨0, (sh_strconv_Atoi_syntax (bs l) (by rw [bs_size]; omega) ha ev w hv hev).mono fun _ _ ⟨N, he, _, _, hb⟩ => ⟨_, _, he, hb⟩⟩
  | range =>
    obtain ⟨ev, hv, hev⟩ := ht.rng
    exact ⟨_, (sh_strconv_Atoi_range (bs l) (by rw [bs_size]; omega) ha ev w hv hev).mono fun _ _ ⟨N, he, _, _, hb⟩ => ⟨_, _, he, hb⟩⟩
theorem cut_any (w : World) (ht : Tbs w) (l : List UInt8) (hl : l.length ≤ 1000000) : Calls Tryz.prog 71 #[.string (bs l), .string ⟨#[58]⟩] w fun e w' =>
    e = .returned (.tuple #[.string (bs (Lib.cut l [58]).1), .string (bs (Lib.cut l [58]).2.1), .bool (Lib.cut l [58]).2.2]) ∧ Below w.heap.size w w' := by
  obtain ⟨m, hm⟩ := ht.max
  exact (sh_strings_Cut (bs l) ⟨#[58]⟩ m w (by rw [bs_size]; omega) hm).mono fun _ _ ⟨he, n, hw⟩ => ⟨he, hw ▸ below_dN (Below.refl _ _) n⟩

/-- What parse returns. -/
def ParsePost (w : World) (r : Option (List (List UInt8))) (e : Ending) (w' : World) : Prop :=
  Below w.heap.size w w' ∧ match r with
  | none => e = .returned (.tuple #[.slice none 0 0, .bool false])
  | some rs => ∃ A c, e = .returned (.tuple #[.slice A rs.length c, .bool true]) ∧ OwnStrs w' w.heap.size (.slice A rs.length c) rs

theorem ParsePost.no {w w' : World} (hb : Below w.heap.size w w') : ParsePost w none (.returned (.tuple #[.slice none 0 0, .bool false])) w' := ⟨hb, rfl⟩
theorem numOf_bad {a : List UInt8} (h : ∀ n, Lib.atoiAll a ≠ .ok n) : numOf a = none := by
  cases hn : numOf a with
  | none => rfl
  | some n =>
    obtain ⟨h1, h2⟩ := numOf_some hn
    rw [itoa_nat] at h2
    have := atoiAll_dec (n := n) (by unfold mxB at h1; omega)
    rw [h2] at this
    exact absurd this (h _)
theorem numOf_ok {a : List UInt8} {v : Int} (h : Lib.atoiAll a = .ok v) {n : Nat} (hn : numOf a = some n) : v = n := by
  obtain ⟨h1, h2⟩ := numOf_some hn
  rw [itoa_nat] at h2
  have := atoiAll_dec (n := n) (by unfold mxB at h1; omega)
  rw [h2, h] at this
  injection this

set_option maxRecDepth 100000 in
set_option maxHeartbeats 8000000 in
theorem parse_any (w : World) (ht : Tbs w) (t : List UInt8) (hl : t.length ≤ 1000000) : Calls Tryz.prog 35 #[.string (bs t)] w (ParsePost w (parseR t)) := by
  obtain ⟨i0, hi0, hz0, hz1, hz2⟩ := info_parts Tryz.infoStr
  obtain ⟨R, hR⟩ : ∃ R, parseR t = R := ⟨_, rfl⟩
  rw [hR]
  have HR := Lib.hid hR
  have HT := Lib.hid ht
  clear hR ht
  have hw0 : OwnStrs w w.heap.size (.slice none 0 0) [] := OwnStrs.nil _ _
  go_enter Tryz.func35, Tryz.ntmps35
  go_wp2_with fail
  go_loopw [0, 4] (fun s v wr => ∃ (m : List UInt8) (rs : List (List UInt8)) (A : Option Addr) (c : Nat), s = .string (bs m) ∧ v = .slice A rs.length c ∧ OwnStrs wr w.heap.size (.slice A rs.length c) rs ∧ Hid (R = (parseR m).map (fun x => rs ++ x)) ∧ m.length + rs.length ≤ t.length ∧ Below w.heap.size w wr) (fun s _ _ => strSize s)
  case atStart => exact ⟨t, [], none, 0, rfl, rfl, hw0, Lib.hid (by rw [HR.out]; cases R <;> rfl), by simp, Below.refl _ _⟩
  case round =>
    clear hw0 HR
    obtain ⟨m, rs, A, c, rfl, rfl, own, HM, hml, hb⟩ := hrel
    have hsz := bs_size m
    by_cases h0 : m = []
    · subst h0
      have hfin : R = some rs := by have := HM.out; rw [parseR_nil] at this; simpa using this
      subst hfin
      have he : (bs []).toList = [] := by rw [Lib.toList_data]; rfl
      have OW := Lib.hid own
      clear HM own
      go_wp2
      go_ret2
      exact ⟨hb, _, _, rfl, OW.out⟩
    obtain ⟨q1, q2⟩ := ne_empty h0
    have hcut := fun W h => cut_any W h m (by omega)
    cases hc : cutC m with
    | none =>
      have hnone : R = none := by rw [HM.out, parseR_none h0 hc]; rfl
      subst hnone
      rw [cut_miss (cutC_none hc)] at hcut
      simp only at hcut
      have HC := Lib.hid hcut
      clear hcut hc HM h0 own
      go_wp2_with fail
      refine (HC.out _ (HT.out.below hb)).mono ?_
      rintro e w3 ⟨rfl, b⟩
      replace hb := hb.trans (b.mono hb.size)
      clear b
      by_cases hok : ∃ n, Lib.atoiAll m = .ok n
      · obtain ⟨n, hn⟩ := hok
        have ha := fun W => atoi_ok W m n (by omega) hn
        have HA := Lib.hid ha
        clear ha hn
        go_wp2_with fail
        refine (HA.out _).mono ?_
        rintro e w4 ⟨rfl, b⟩
        replace hb := hb.trans (b.mono hb.size)
        clear b
        go_wp2
        go_ret2
        exact ParsePost.no hb
      · obtain ⟨n, ha⟩ := atoi_bad w3 (HT.out.below hb) m (by omega) (fun n hn => hok ⟨n, hn⟩)
        have HA := Lib.hid ha
        clear ha hok
        go_wp2_with fail
        refine HA.out.mono ?_
        rintro e w4 ⟨ty, v, rfl, b⟩
        replace hb := hb.trans (b.mono hb.size)
        clear b
        go_wp2
        go_ret2
        exact ParsePost.no hb
    | some pr =>
      obtain ⟨a, r⟩ := pr
      have hstep := parseR_step hc
      obtain ⟨hma, hac⟩ := cutC_some hc
      rw [hma, cut_hit hac, ← hma] at hcut
      simp only at hcut
      have hal : a.length + 1 + r.length = m.length := by rw [hma]; simp; omega
      have hsr := bs_size r
      have HC := Lib.hid hcut
      have HST := Lib.hid hstep
      clear hcut hc h0 hstep hma hac
      go_wp2_with fail
      refine (HC.out _ (HT.out.below hb)).mono ?_
      rintro e w3 ⟨rfl, b⟩
      have own3 : OwnStrs w3 w.heap.size (.slice A rs.length c) rs := (Only.of_below b (fun _ => False)).owns own (fun _ _ h => h)
      replace hb := hb.trans (b.mono hb.size)
      clear b own q1 q2 HC
      by_cases hok : ∃ n, Lib.atoiAll a = .ok n
      case neg =>
        have hnone : R = none := by rw [HM.out, HST.out, numOf_bad (fun n hn => hok ⟨n, hn⟩)]; rfl
        subst hnone
        obtain ⟨n, ha⟩ := atoi_bad w3 (HT.out.below hb) a (by omega) (fun n hn => hok ⟨n, hn⟩)
        have HA := Lib.hid ha
        clear ha hok HM HST own3
        go_wp2_with fail
        refine HA.out.mono ?_
        rintro e w4 ⟨ty, v, rfl, b⟩
        replace hb := hb.trans (b.mono hb.size)
        clear b
        go_wp2
        go_ret2
        exact ParsePost.no hb
      obtain ⟨n, hn⟩ := hok
      have ha := fun W => atoi_ok W a n (by omega) hn
      have HA := Lib.hid ha
      have HN := Lib.hid hn
      clear ha hn
      go_wp2_with fail
      refine (HA.out _).mono ?_
      rintro e w4 ⟨rfl, b⟩
      have own4 : OwnStrs w4 w.heap.size (.slice A rs.length c) rs := (Only.of_below b (fun _ => False)).owns own3 (fun _ _ h => h)
      replace hb := hb.trans (b.mono hb.size)
      clear b own3 HA
      by_cases h1 : n < 0
      · have d1 : decide (n < 0) = true := decide_eq_true h1
        have hnone : R = none := by
          rw [HM.out, HST.out]
          cases hq : numOf a with
          | none => rfl
          | some k => have := numOf_ok HN.out hq; omega
        subst hnone
        clear HM HST own4 h1
        go_wp2
        go_ret2
        exact ParsePost.no hb
      have d1 : decide (n < 0) = false := decide_eq_false h1
      by_cases h2 : 20000 < n
      · have d2 : decide (20000 < n) = true := decide_eq_true h2
        have hnone : R = none := by
          rw [HM.out, HST.out]
          cases hq : numOf a with
          | none => rfl
          | some k => have := numOf_ok HN.out hq; have := (numOf_some hq).1; unfold mxB at this; omega
        subst hnone
        clear HM HST own4 h1 h2
        go_wp2
        go_ret2
        exact ParsePost.no hb
      have d2 : decide (20000 < n) = false := decide_eq_false h2
      obtain ⟨k, rfl⟩ := Int.eq_ofNat_of_zero_le (show 0 ≤ n by omega)
      have hk : k ≤ 20000 := by omega
      have hit := fun W h => itoa_any W h k (by omega)
      clear h1 h2
      by_cases h3 : Lib.decDigits k = a
      case neg =>
        have hnone : R = none := by
          rw [HM.out, HST.out]
          cases hq : numOf a with
          | none => rfl
          | some j =>
            have := numOf_ok HN.out hq
            have h5 := (numOf_some hq).2
            rw [itoa_nat] at h5
            exact absurd (by rw [show k = j by omega]; exact h5) h3
        subst hnone
        have q3 := beq_bs h3
        generalize Lib.decDigits k = D at *
        have HI := Lib.hid hit
        clear HM HST own4 hit h3
        go_wp2_with fail
        refine (HI.out _ (HT.out.below hb)).mono ?_
        rintro e w5 ⟨rfl, b⟩
        replace hb := hb.trans (b.mono hb.size)
        clear b
        go_wp2
        go_ret2
        exact ParsePost.no hb
      have hnum : numOf a = some k := by rw [← h3, ← itoa_nat]; exact numOf_itoa (by unfold mxB; omega)
      rw [h3] at hit
      have HI := Lib.hid hit
      have HNUM := Lib.hid hnum
      clear hit h3 hnum
      by_cases h4 : k ≤ r.length
      case neg =>
        have hnone : R = none := by rw [HM.out, HST.out, HNUM.out, Option.bind_some, if_neg h4]; rfl
        subst hnone
        have d4 : decide (r.length < k) = true := decide_eq_true (by omega)
        clear HM HST own4
        go_wp2_with fail
        refine (HI.out _ (HT.out.below hb)).mono ?_
        rintro e w5 ⟨rfl, b⟩
        replace hb := hb.trans (b.mono hb.size)
        clear b
        go_wp2
        go_ret2
        exact ParsePost.no hb
      have d4 : decide (r.length < k) = false := decide_eq_false (by omega)
      have s1 := sl_to r k h4
      have s2 := sl_from r k h4
      have hdl : (r.drop k).length = r.length - k := List.length_drop
      have hnx : R = (parseR (r.drop k)).map (fun x => (rs ++ [r.take k]) ++ x) := by
        have e : ((fun x => rs ++ x) ∘ fun x => r.take k :: x) = fun x => (rs ++ [r.take k]) ++ x := by funext x; simp
        rw [HM.out, HST.out, HNUM.out, Option.bind_some, if_pos h4, Option.map_map, e]
      have HNX := Lib.hid hnx
      have HDL := Lib.hid hdl
      clear HM HST hnx hdl
      go_wp2_with fail
      refine (HI.out _ (HT.out.below hb)).mono ?_
      rintro e w5 ⟨rfl, b⟩
      have own5 : OwnStrs w5 w.heap.size (.slice A rs.length c) rs := (Only.of_below b (fun _ => False)).owns own4 (fun _ _ h => h)
      replace hb := hb.trans (b.mono hb.size)
      have kn := Blk.new w5 9 #[sv (r.take k)]
      have hb2 := hb.alloc hb.size (.cells #[sv (r.take k)] 9)
      have own6 : OwnStrs (w5.alloc (.cells #[sv (r.take k)] 9)) w.heap.size (.slice A rs.length c) rs := World.ownsRow.alloc own5 _
      have hrsl : rs.length ≤ 1000000 := by omega
      clear b own4 own5 HI
      go_wp2_with (at_builtin; refine wpList_append_lies _ rfl _ _ 30 rfl w.heap.size 9 i0 _ 1 16 Tryz.underlying30 hi0 hz0 hz1 hz2 rfl (by omega) (.slice A rs.length c) rs.length (rs.map sv) rfl own6 ⟨w5.heap.size, 0, none⟩ 1 1 [sv (r.take k)] rfl rfl (World.news_of_block kn) (sv_one [r.take k]) (by omega) (by unfold maxLen; omega) (by omega) (by have := hb.size; simp; omega) (w5.heap.size + 1) (by simp) ?_; intro gz cz Y own9 gr9 l9 z9)
      have hb3 := hb2.grown gr9 hb2.size (fun x hx => (World.ownsRow.lt own6 x hx).1)
      have hl1 : (rs ++ [r.take k]).length = rs.length + 1 := by simp
      have own7 : OwnStrs Y w.heap.size (.slice (some ⟨gz, 0, none⟩) (rs.length + 1) cz) (rs ++ [r.take k]) := by
        unfold OwnStrs
        rw [hl1, List.map_append]
        exact own9
      go_roundw
      case rel => exact ⟨r.drop k, rs ++ [r.take k], some ⟨gz, 0, none⟩, cz, rfl, by rw [hl1], by rw [hl1]; exact own7, HNX, by rw [hl1, HDL.out]; omega, hb3⟩
      case measure =>
        show (bs (r.drop k)).size < (bs m).size
        rw [bs_size, bs_size, HDL.out]; omega
end Go.Proofs.YtieicjjmkedgaaaGreatDoor

/- A journal in memory; Room, Records, ContainsFunc. -/
namespace Go.Proofs.YtieicjjmkedgaaaGreatDoor
open Go.RowKit Go.Shelf

/-- A journal as plain data: its sectors, its count, its records, whether it is broken. -/
structure Jn where
  n : Nat
  cnt : Nat
  rs : List (List UInt8)
  broken : Bool
/-- The journal j on the disk a; it lies in the blocks of J. -/
def JAt (w : World) (base : Nat) (a j : Nat) (J : Foot) (x : Jn) : Prop :=
  ∃ A c, Blk w j 58 #[.pointer (some ⟨a, 0, none⟩), .int .i64 (x.n : Int), .int .i64 (x.cnt : Int), .slice A x.rs.length c, .bool x.broken] ∧
    OwnStrs w base (.slice A x.rs.length c) x.rs ∧ J j ∧ (∀ g, Value.ownBlock (.slice A x.rs.length c) = some g → J g ∧ g ≠ j)

set_option maxRecDepth 100000 in
theorem room_any (w : World) (base a j : Nat) (J : Foot) (x : Jn) (h : JAt w base a j J x) (hn : x.n ≤ 1000000) (hc : x.cnt ≤ 1000000) :
    Calls Tryz.prog 13 #[.pointer (some ⟨j, 0, none⟩)] w fun e w' => e = .returned (.int .i64 ((x.n : Int) - 2 - x.cnt)) ∧ ∃ q, w' = w.drewN q := by
  obtain ⟨A, c, hb, _, _, _⟩ := h
  obtain ⟨x0, x1, x2⟩ := hb.all
  obtain ⟨n, cnt, rs, br⟩ := x
  simp only at *
  go_enter Tryz.func13, Tryz.ntmps13
  go_wp2_with fail
  go_quiet (fail)
  go_wp2
  go_ret
  exact ⟨rfl, _, rfl⟩

theorem OwnStrs.at {w : World} {base : Nat} {v : Value} {l : List (List UInt8)} (h : OwnStrs w base v l) : ∃ A c, v = .slice A l.length c ∧ StrsAt w w.heap.size A l ∧ (∀ g, v.ownBlock = some g → base ≤ g ∧ g < w.heap.size) ∧
    (∀ g off f, A = some ⟨g, off, f⟩ → v.ownBlock = some g) := by
  have hlt := World.ownsRow.lt h
  obtain ⟨A, c, rfl⟩ := h.form
  refine ⟨A, c, rfl, fun i s hi => ?_, hlt, fun g off f hA => by subst hA; rfl⟩
  have hil : i < l.length := (List.getElem?_eq_some_iff.1 hi).1
  obtain ⟨g, cap, hv, _⟩ := World.ownsRow.form h (by omega)
  injection hv with e1 e2 e3
  subst e1 e3
  have hc := World.ownsRow.cellAt h i (by omega)
  refine ⟨g, 0, rfl, (hlt g rfl).2, ?_⟩
  rw [Nat.zero_add, hc, List.getElem?_map, hi]
  rfl
end Go.Proofs.YtieicjjmkedgaaaGreatDoor

/- A journal in memory; Records, ContainsFunc. -/
namespace Go.Proofs.YtieicjjmkedgaaaGreatDoor
open Go.RowKit Go.Shelf

theorem clone_any (w : World) (base : Nat) (A : Option Addr) (c : Nat) (l : List (List UInt8)) (h : OwnStrs w base (.slice A l.length c) l) (hl : l.length ≤ 1000000) :
    Calls Tryz.prog 40 #[.slice A l.length c] w fun e w' => ∃ v, e = .returned v ∧ OwnStrs w' w.heap.size v l ∧ Below w.heap.size w w' := by
  by_cases h0 : l.length = 0
  · have hl0 : l = [] := List.length_eq_zero_iff.1 h0
    subst hl0
    cases A with
    | none => exact (sh_slices_Clone_string_nil 0 c w).mono (by rintro e w' ⟨rfl, rfl⟩; exact ⟨_, rfl, OwnStrs.nil _ _, Below.refl _ _⟩)
    | some a => exact (sh_slices_Clone_string_zero a c w).mono (by rintro e w' ⟨v, rfl, ho, _, hb⟩; exact ⟨v, rfl, ho, hb⟩)
  · obtain ⟨A', c', hv, hs, _⟩ := h.at
    obtain ⟨rfl, _, rfl⟩ : A = A' ∧ l.length = l.length ∧ c = c' := by simpa using hv
    obtain ⟨g, off, rfl, _⟩ := hs 0 (l[0]'(by omega)) (List.getElem?_eq_getElem (by omega))
    have hmap : (List.take l.length (l.map bs)).map Value.string = l.map sv := by
      rw [List.take_of_length_le (by simp), List.map_map]; rfl
    have := sh_slices_Clone_string g off l.length c (l.map bs) w (by simp) (by omega) (fun j hj => by
      simp only [List.length_map] at hj
      obtain ⟨g', off', hA, _, hc⟩ := hs j l[j] (List.getElem?_eq_getElem hj)
      obtain ⟨rfl, rfl⟩ : g = g' ∧ off = off' := by simpa using hA
      rw [hc]
      simp [List.getD, hj])
    rw [hmap] at this
    exact this.mono (by rintro e w' ⟨v, rfl, ho, _, hb⟩; exact ⟨v, rfl, ho, hb⟩)

set_option maxRecDepth 100000 in
theorem records_any (w : World) (base a j : Nat) (J : Foot) (x : Jn) (h : JAt w base a j J x) (hl : x.rs.length ≤ 1000000) :
    Calls Tryz.prog 11 #[.pointer (some ⟨j, 0, none⟩)] w fun e w' => ∃ v, e = .returned v ∧ OwnStrs w' w.heap.size v x.rs ∧ Below w.heap.size w w' := by
  obtain ⟨A, c, hb, ho, _, _⟩ := h
  obtain ⟨x0, x1, x2⟩ := hb.all
  obtain ⟨n, cnt, rs, br⟩ := x
  simp only at *
  have hc := Lib.hid (clone_any w base A c rs ho hl)
  clear ho
  go_enter Tryz.func11, Tryz.ntmps11
  go_wp2_with fail
  refine hc.out.mono ?_
  rintro e w3 ⟨v, rfl, ho3, hb3⟩
  go_wp2
  go_ret
  exact ⟨_, rfl, ho3, hb3⟩

theorem long_any (w : World) (s : List UInt8) : Calls Tryz.prog 53 #[.string (bs s)] w fun e w' => e = .returned (.bool (decide (20000 < s.length))) ∧ w' = w := by
  have h1 := bs_size s
  go_enter Tryz.func53, Tryz.ntmps53
  go_wp2
  go_ret
  refine ⟨?_, rfl⟩
  congr 2
  simp
  omega
end Go.Proofs.YtieicjjmkedgaaaGreatDoor

/- A journal in memory; ContainsFunc. -/
namespace Go.Proofs.YtieicjjmkedgaaaGreatDoor
open Go.RowKit Go.Shelf

set_option maxRecDepth 100000 in
set_option maxHeartbeats 4000000 in
theorem index_any (w : World) (G : Foot) (A : Option Addr) (c : Nat) (l : List (List UInt8)) (hs : StrsIn w G A l) (hl : l.length ≤ 1000000) :
    Calls Tryz.prog 83 #[.slice A l.length c, .func (Fn.func 53) #[] #[]] w fun e w' => (∃ i : Int, e = .returned (.int .i64 i) ∧ (0 ≤ i ↔ l.any (fun r => decide (20000 < r.length)) = true) ∧ -1 ≤ i ∧ i ≤ 1000000) ∧ w' = w := by
  have HS := Lib.hid hs
  clear hs
  go_enter Tryz.func83, Tryz.ntmps83
  go_wp2_with fail
  go_loopw [8] (fun i wr => ∃ (k : Nat), k ≤ l.length ∧ i = .int .i64 (k : Int) ∧ w = wr ∧ ∀ r ∈ l.take k, r.length ≤ 20000) (fun i _ => l.length - (intOf i).toNat)
  case atStart => exact ⟨0, Nat.zero_le _, rfl, rfl, fun r hr => by simp at hr⟩
  case round =>
    obtain ⟨k, hkl, rfl, rfl, hk⟩ := hrel
    have HK := Lib.hid hk
    clear hk
    by_cases hlt : k < l.length
    · obtain ⟨s, hss⟩ : ∃ s, l[k]? = some s := ⟨_, List.getElem?_eq_getElem hlt⟩
      obtain ⟨g, off, hA, hg, hc⟩ := HS.out k s hss
      subst hA
      have hi0 : (0 : Int) ≤ (k : Int) := by omega
      have hi1 : (k : Int) < (l.length : Int) := by omega
      have hL := long_any w s
      have HSS := Lib.hid hss
      clear hss
      by_cases hz : 20000 < s.length
      · rw [show decide (20000 < s.length) = true by simpa using hz] at hL
        have HL := Lib.hid hL
        have HZ := Lib.hid hz
        clear hL hz
        go_wp2_with (go_at_call 53; refine HL.out.mono ?_; rintro e w3 ⟨rfl, rfl⟩)
        go_ret
        refine ⟨⟨_, rfl, ⟨fun _ => ?_, fun _ => by omega⟩, by omega, by omega⟩, rfl⟩
        exact List.any_eq_true.2 ⟨s, List.mem_of_getElem? HSS.out, by simpa using HZ.out⟩
      · rw [show decide (20000 < s.length) = false by simpa using hz] at hL
        have HL := Lib.hid hL
        have HZ := Lib.hid hz
        clear hL hz
        go_wp2_with (go_at_call 53; refine HL.out.mono ?_; rintro e w3 ⟨rfl, rfl⟩)
        go_roundw
        case rel =>
          refine ⟨k + 1, by omega, by go_num, by trivial, fun r hr => ?_⟩
          rw [List.take_add_one, HSS.out] at hr
          rcases List.mem_append.1 hr with hr | hr
          · exact HK.out r hr
          · obtain rfl : r = s := by simpa using hr
            have := HZ.out
            omega
        case measure => simp [intOf]; omega
    · obtain rfl : k = l.length := by omega
      go_wp2
      go_ret
      refine ⟨⟨_, rfl, ⟨fun h => absurd h (by decide), fun h => ?_⟩, by decide, by decide⟩, rfl⟩
      obtain ⟨r, hr, h2⟩ := List.any_eq_true.1 h
      have h3 := HK.out r (by rw [List.take_length]; exact hr)
      have h4 : 20000 < r.length := by simpa using h2
      omega

set_option maxRecDepth 100000 in
theorem contains_any (w : World) (G : Foot) (A : Option Addr) (c : Nat) (l : List (List UInt8)) (hs : StrsIn w G A l) (hl : l.length ≤ 1000000) :
    Calls Tryz.prog 52 #[.slice A l.length c, .func (Fn.func 53) #[] #[]] w fun e w' => e = .returned (.bool (l.any (fun r => decide (20000 < r.length)))) ∧ w' = w := by
  have HI := Lib.hid (index_any w G A c l hs hl)
  clear hs
  go_enter Tryz.func52, Tryz.ntmps52
  go_wp2_with fail
  refine HI.out.mono ?_
  rintro e w3 ⟨⟨i, rfl, hi, hi1, hi2⟩, rfl⟩
  have HH := Lib.hid hi
  clear hi
  go_wp2
  go_ret
  have e : decide (0 ≤ i) = l.any (fun r => decide (20000 < r.length)) := by
    rw [Bool.eq_iff_iff, ← HH.out]
    simp
  rw [← e]
  exact ⟨rfl, rfl⟩
end Go.Proofs.YtieicjjmkedgaaaGreatDoor

/- A journal in memory; the closures of Append that write. -/
namespace Go.Proofs.YtieicjjmkedgaaaGreatDoor
open Go.RowKit Go.Shelf

section
variable {w0 w : World} {a : Nat} {d : Dk} {G : Foot}
set_option maxRecDepth 100000 in
theorem put3_any (L : Live w0 w a d G) (j : Nat) (v1 v2 v3 v4 : Value) (hj : Blk w j 58 #[.pointer (some ⟨a, 0, none⟩), v1, v2, v3, v4]) (hG : G j)
    (p2 p6 p8 : Nat) (place : Nat) (hp : place ≤ 1000000) (A : Option Addr) (l : List (List UInt8)) (c : Nat) (hs : StrsIn w G A l) (hq : d.q.length + l.length < 4096)
    (h2 : w.cell? ⟨p2, 0, none⟩ = some (.pointer (some ⟨j, 0, none⟩))) (h6 : w.cell? ⟨p6, 0, none⟩ = some (.int .i64 (place : Int))) (h8 : w.cell? ⟨p8, 0, none⟩ = some (.slice A l.length c)) :
    Calls Tryz.prog 57 #[.pointer (some ⟨p2, 0, none⟩), .pointer (some ⟨p6, 0, none⟩), .pointer (some ⟨p8, 0, none⟩)] w fun e w' =>
      e = .returned (.int .i64 (d.puts place l).2) ∧ Live w0 w' a (d.puts place l).1 G ∧ Keep G w w' := by
  have HP := Lib.hid (put_any L j v1 v2 v3 v4 hj hG place hp A l c hs hq)
  clear hs hj
  go_enter Tryz.func57, Tryz.ntmps57
  go_wp2_with fail
  refine HP.out.mono ?_
  rintro e w3 ⟨rfl, L3, hk⟩
  clear L HP
  go_wp2
  go_ret
  exact ⟨rfl, L3, hk⟩

set_option maxRecDepth 100000 in
theorem put4_any (L : Live w0 w a d G) (j : Nat) (v1 v2 v3 v4 : Value) (hj : Blk w j 58 #[.pointer (some ⟨a, 0, none⟩), v1, v2, v3, v4]) (hG : G j)
    (p2 p6 p8 : Nat) (place : Nat) (hp : place ≤ 1000000) (A : Option Addr) (l : List (List UInt8)) (c : Nat) (hs : StrsIn w G A l) (hq : d.q.length + l.length < 4096)
    (h2 : w.cell? ⟨p2, 0, none⟩ = some (.pointer (some ⟨j, 0, none⟩))) (h6 : w.cell? ⟨p6, 0, none⟩ = some (.int .i64 (place : Int))) (h8 : w.cell? ⟨p8, 0, none⟩ = some (.slice A l.length c)) :
    Calls Tryz.prog 58 #[.pointer (some ⟨p2, 0, none⟩), .pointer (some ⟨p6, 0, none⟩), .pointer (some ⟨p8, 0, none⟩)] w fun e w' =>
      e = .returned (.int .i64 (d.puts place l).2) ∧ Live w0 w' a (d.puts place l).1 G ∧ Keep G w w' := by
  have HP := Lib.hid (put_any L j v1 v2 v3 v4 hj hG place hp A l c hs hq)
  clear hs hj
  go_enter Tryz.func58, Tryz.ntmps58
  go_wp2_with fail
  refine HP.out.mono ?_
  rintro e w3 ⟨rfl, L3, hk⟩
  clear L HP
  go_wp2
  go_ret
  exact ⟨rfl, L3, hk⟩

/-- A slice of one text, newly laid beside the disk. -/
theorem Live.one {s : List UInt8} {w1 : World} (L : Live w0 w a d G) (hb : Below w.heap.size w w1) (t : TypeId) :
    Live w0 (w1.alloc (.cells #[.string (bs s)] t)) a d (fun i => G i ∨ i = w1.heap.size) ∧ StrsIn (w1.alloc (.cells #[.string (bs s)] t)) (fun i => G i ∨ i = w1.heap.size) (some ⟨w1.heap.size, 0, none⟩) [s] ∧ Keep G w (w1.alloc (.cells #[.string (bs s)] t)) := by
  have hsz : (w1.alloc (.cells #[.string (bs s)] t)).heap.size = w1.heap.size + 1 := by simp
  have hb2 : Below w.heap.size w (w1.alloc (.cells #[.string (bs s)] t)) := hb.alloc hb.size _
  have hs := hb.size
  refine ⟨L.more hb2 (fun i hi => ?_), fun i r hi => ?_, Keep.of_below hb2 L.lt⟩
  · rcases hi with h | rfl
    · exact .inl h
    · exact .inr ⟨hb.size, by omega⟩
  · cases i with
    | zero =>
      obtain rfl : s = r := by simpa using hi
      exact ⟨_, _, rfl, .inr rfl, (Blk.new w1 t _).cell 0⟩
    | succ i => simp at hi
theorem Live.less {H : Foot} (h : Live w0 w a d G) (hH : ∀ i, H i → G i) : Live w0 w a d H := by
  obtain ⟨F, h1, h2, h3⟩ := h.disk
  exact ⟨h.below, ⟨F, h1, h2, fun i hi hh => h3 i hi (hH i hh)⟩, fun i hi => h.lt i (hH i hi)⟩

set_option maxRecDepth 100000 in
set_option maxHeartbeats 1000000 in
theorem put5_any (L : Live w0 w a d G) (ht : Tbs w0) (j : Nat) (v1 v2 v3 v4 : Value) (hj : Blk w j 58 #[.pointer (some ⟨a, 0, none⟩), v1, v2, v3, v4]) (hG : G j)
    (p2 p7 : Nat) (n : Nat) (hn : n < 100000000) (hq : d.q.length + 1 < 4096)
    (h2 : w.cell? ⟨p2, 0, none⟩ = some (.pointer (some ⟨j, 0, none⟩))) (h7 : w.cell? ⟨p7, 0, none⟩ = some (.int .i64 (n : Int))) :
    Calls Tryz.prog 59 #[.pointer (some ⟨p2, 0, none⟩), .pointer (some ⟨p7, 0, none⟩)] w fun e w' =>
      e = .returned (.int .i64 (d.puts 1 [headL 1 n]).2) ∧ Live w0 w' a (d.puts 1 [headL 1 n]).1 G ∧ Keep G w w' := by
  have hh : ∀ W, Tbs W → Calls Tryz.prog 37 #[.int .i64 1, .int .i64 (n : Int)] W fun e w' => e = .returned (.string (bs (headL 1 n))) ∧ Below W.heap.size W w' := fun W hW => head_place_any W hW 1 (by omega) n hn
  have HH := Lib.hid hh
  have hp : ∀ w1, Below w.drew.heap.size w.drew w1 → Calls Tryz.prog 39 #[.pointer (some ⟨j, 0, none⟩), .int .i64 1, .slice (some ⟨w1.heap.size, 0, none⟩) 1 1] (w1.alloc (.cells #[.string (bs (headL 1 n))] 9)) fun e w' =>
      e = .returned (.int .i64 (d.puts 1 [headL 1 n]).2) ∧ Live w0 w' a (d.puts 1 [headL 1 n]).1 G ∧ Keep G w w' := by
    intro w1 hbd
    have hb : Below w.heap.size w w1 := ⟨hbd.os, hbd.tape, hbd.output, hbd.size, hbd.block⟩
    obtain ⟨L1, s1, k1⟩ := L.one (s := headL 1 n) hb 9
    refine (put_any L1 j v1 v2 v3 v4 (hj.keep k1 hG) (.inl hG) 1 (by omega) _ _ 1 s1 (by simp; omega)).mono ?_
    rintro e w' ⟨he, L3, k3⟩
    exact ⟨he, L3.less fun i hi => .inl hi, k1.trans (k3.mono fun i hi => .inl hi)⟩
  have HP := Lib.hid hp
  have ht2 : Tbs w := ht.below L.below
  have htd : Tbs w.drew := ht2.below ⟨rfl, rfl, rfl, Nat.le_refl _, fun _ _ => rfl⟩
  have HT := Lib.hid htd
  have hl2 := World.block_lt_of_cell? _ _ h2
  have hl7 := World.block_lt_of_cell? _ _ h7
  clear hj hp hh ht2 htd
  go_enter Tryz.func59, Tryz.ntmps59
  go_wp2_with fail
  go_region_with (first | (go_at_call 37; refine (HH.out _ HT.out).mono ?_; rintro e w1 ⟨rfl, b1⟩; have g2 : w1.cell? ⟨p2, 0, none⟩ = some (.pointer (some ⟨j, 0, none⟩)) := (b1.cell (p := ⟨p2, 0, none⟩) hl2).trans h2; have g3 := Lib.cell?_alloc_some (.cells #[.string (bs (headL 1 n))] 9) g2) | (go_at_call 39; refine (HP.out _ (by assumption)).mono ?_; rintro e w4 ⟨rfl, L4, k4⟩))
  all_goals (go_wp2; go_ret; exact ⟨rfl, L4, k4⟩)

set_option maxRecDepth 100000 in
set_option maxHeartbeats 1000000 in
theorem put6_any (L : Live w0 w a d G) (ht : Tbs w0) (j : Nat) (v1 v2 v3 v4 : Value) (hj : Blk w j 58 #[.pointer (some ⟨a, 0, none⟩), v1, v2, v3, v4]) (hG : G j)
    (p2 p7 : Nat) (n : Nat) (hn : n < 100000000) (hq : d.q.length + 1 < 4096)
    (h2 : w.cell? ⟨p2, 0, none⟩ = some (.pointer (some ⟨j, 0, none⟩))) (h7 : w.cell? ⟨p7, 0, none⟩ = some (.int .i64 (n : Int))) :
    Calls Tryz.prog 60 #[.pointer (some ⟨p2, 0, none⟩), .pointer (some ⟨p7, 0, none⟩)] w fun e w' =>
      e = .returned (.int .i64 (d.puts 0 [headL 0 n]).2) ∧ Live w0 w' a (d.puts 0 [headL 0 n]).1 G ∧ Keep G w w' := by
  have hh : ∀ W, Tbs W → Calls Tryz.prog 37 #[.int .i64 0, .int .i64 (n : Int)] W fun e w' => e = .returned (.string (bs (headL 0 n))) ∧ Below W.heap.size W w' := fun W hW => head_place_any W hW 0 (by omega) n hn
  have HH := Lib.hid hh
  have hp : ∀ w1, Below w.drew.heap.size w.drew w1 → Calls Tryz.prog 39 #[.pointer (some ⟨j, 0, none⟩), .int .i64 0, .slice (some ⟨w1.heap.size, 0, none⟩) 1 1] (w1.alloc (.cells #[.string (bs (headL 0 n))] 9)) fun e w' =>
      e = .returned (.int .i64 (d.puts 0 [headL 0 n]).2) ∧ Live w0 w' a (d.puts 0 [headL 0 n]).1 G ∧ Keep G w w' := by
    intro w1 hbd
    have hb : Below w.heap.size w w1 := ⟨hbd.os, hbd.tape, hbd.output, hbd.size, hbd.block⟩
    obtain ⟨L1, s1, k1⟩ := L.one (s := headL 0 n) hb 9
    refine (put_any L1 j v1 v2 v3 v4 (hj.keep k1 hG) (.inl hG) 0 (by omega) _ _ 1 s1 (by simp; omega)).mono ?_
    rintro e w' ⟨he, L3, k3⟩
    exact ⟨he, L3.less fun i hi => .inl hi, k1.trans (k3.mono fun i hi => .inl hi)⟩
  have HP := Lib.hid hp
  have ht2 : Tbs w := ht.below L.below
  have htd : Tbs w.drew := ht2.below ⟨rfl, rfl, rfl, Nat.le_refl _, fun _ _ => rfl⟩
  have HT := Lib.hid htd
  have hl2 := World.block_lt_of_cell? _ _ h2
  have hl7 := World.block_lt_of_cell? _ _ h7
  clear hj hp hh ht2 htd
  go_enter Tryz.func60, Tryz.ntmps60
  go_wp2_with fail
  go_region_with (first | (go_at_call 37; refine (HH.out _ HT.out).mono ?_; rintro e w1 ⟨rfl, b1⟩; have g2 : w1.cell? ⟨p2, 0, none⟩ = some (.pointer (some ⟨j, 0, none⟩)) := (b1.cell (p := ⟨p2, 0, none⟩) hl2).trans h2; have g3 := Lib.cell?_alloc_some (.cells #[.string (bs (headL 0 n))] 9) g2) | (go_at_call 39; refine (HP.out _ (by assumption)).mono ?_; rintro e w4 ⟨rfl, L4, k4⟩))
  all_goals (go_wp2; go_ret; exact ⟨rfl, L4, k4⟩)
end
end Go.Proofs.YtieicjjmkedgaaaGreatDoor

/- A journal in memory; the deferred closure of Append. -/
namespace Go.Proofs.YtieicjjmkedgaaaGreatDoor
open Go.RowKit Go.Shelf

set_option maxRecDepth 100000 in
theorem broke_any (u : FrameMode) (w : World) (j p4 p2 : Nat) (v0 v1 v2 v3 v4 : Value) (e : Int) (hj : Blk w j 58 #[v0, v1, v2, v3, v4])
    (h4 : w.cell? ⟨p4, 0, none⟩ = some (.int .i64 e)) (h2 : w.cell? ⟨p2, 0, none⟩ = some (.pointer (some ⟨j, 0, none⟩))) :
    CallsD Tryz.prog 56 #[.pointer (some ⟨p4, 0, none⟩), .pointer (some ⟨p2, 0, none⟩)] u w fun r u' w' => u' = u ∧ (r = .returned (.tuple #[]) ∧ w' = w.setCell ⟨j, 4, none⟩ (.bool (e != 0))) := by
  obtain ⟨x0, x1, x2⟩ := hj.all
  have hbn : (e != 0) = !(e == 0) := rfl
  go_enter_d Tryz.func56, Tryz.ntmps56
  go_wp2
  go_end0
  exact ⟨rfl, rfl⟩
end Go.Proofs.YtieicjjmkedgaaaGreatDoor

/- A journal in memory; the two lists of sectors that Append builds. -/
namespace Go.Proofs.YtieicjjmkedgaaaGreatDoor
open Go.RowKit Go.Shelf

theorem OwnStrs.keepb {w w' : World} {base : Nat} {v : Value} {l : List (List UInt8)} (h : OwnStrs w base v l) (hk : ∀ b, v.ownBlock = some b → w'.heap[b]? = w.heap[b]?) : OwnStrs w' base v l := by
  refine ⟨h.1, ?_⟩
  rcases h.2 with h0 | ⟨g, cap, cur, rfl, h1, h2, h3⟩
  · exact .inl h0
  · exact .inr ⟨g, cap, cur, rfl, h1, (hk g rfl).trans h2, h3⟩
theorem OwnStrs.row {w : World} {base : Nat} {v : Value} {l : List (List UInt8)} (h : OwnStrs w base v l) {g : Nat} (hg : v.ownBlock = some g) : ∃ cur, Blk w g 9 cur := by
  rcases h.2 with ⟨rfl, h0⟩ | ⟨g', cap, cur, rfl, h1, h2, h3⟩
  · cases hg
  · obtain rfl : g' = g := by simpa [Value.ownBlock] using hg
    exact ⟨cur, h2⟩
theorem OwnStrs.ne {w : World} {base : Nat} {v : Value} {l : List (List UInt8)} (h : OwnStrs w base v l) {g : Nat} {t : TypeId} {cs : Array Value} (hb : Blk w g t cs) (ht : t ≠ 9) : some g ≠ v.ownBlock := by
  intro e
  obtain ⟨cur, hc⟩ := h.row e.symm
  exact (hb.ne_ hc ht) rfl

/-- What Append's variables hold while it builds the two lists. -/
structure Ph (w wr : World) (j p2 p4 p6 p7 p8 p9 at_ nx : Nat) (v5 : Value) (l z f : List (List UInt8)) (Az : Option Addr) (cz : Nat) (Af : Option Addr) (cf : Nat) : Prop where
  below : Below w.heap.size w wr
  b2 : Blk wr p2 29 #[.pointer (some ⟨j, 0, none⟩)]
  b4 : Blk wr p4 31 #[.int .i64 0]
  b6 : Blk wr p6 3 #[.int .i64 (at_ : Int)]
  b7 : Blk wr p7 3 #[.int .i64 (nx : Int)]
  b8 : Blk wr p8 30 #[.slice Az z.length cz]
  b9 : Blk wr p9 30 #[.slice Af f.length cf]
  o5 : OwnStrs wr w.heap.size v5 l
  oz : OwnStrs wr w.heap.size (.slice Az z.length cz) z
  of : OwnStrs wr w.heap.size (.slice Af f.length cf) f
  ge : w.heap.size ≤ p2 ∧ w.heap.size ≤ p4 ∧ w.heap.size ≤ p6 ∧ w.heap.size ≤ p7 ∧ w.heap.size ≤ p8 ∧ w.heap.size ≤ p9
  ne : p8 ≠ p9
  zf : ∀ g, (Value.slice Az z.length cz).ownBlock = some g → (Value.slice Af f.length cf).ownBlock ≠ some g
  z5 : ∀ g, (Value.slice Az z.length cz).ownBlock = some g → v5.ownBlock ≠ some g
  f5 : ∀ g, (Value.slice Af f.length cf).ownBlock = some g → v5.ownBlock ≠ some g

section
variable {w wr w1 Y : World} {j p2 p4 p6 p7 p8 p9 at_ nx : Nat} {v5 : Value} {l z f : List (List UInt8)} {Az : Option Addr} {cz : Nat} {Af : Option Addr} {cf : Nat}
theorem Ph.swap (h : Ph w wr j p2 p4 p6 p7 p8 p9 at_ nx v5 l z f Az cz Af cf) : Ph w wr j p2 p4 p6 p7 p9 p8 at_ nx v5 l f z Af cf Az cz :=
  ⟨h.below, h.b2, h.b4, h.b6, h.b7, h.b9, h.b8, h.o5, h.of, h.oz, ⟨h.ge.1, h.ge.2.1, h.ge.2.2.1, h.ge.2.2.2.1, h.ge.2.2.2.2.2, h.ge.2.2.2.2.1⟩, fun e => h.ne e.symm, fun g e1 e2 => h.zf g e2 e1, h.f5, h.z5⟩
theorem Ph.drew (h : Ph w wr j p2 p4 p6 p7 p8 p9 at_ nx v5 l z f Az cz Af cf) : Ph w wr.drew j p2 p4 p6 p7 p8 p9 at_ nx v5 l z f Az cz Af cf :=
  ⟨h.below.drew, h.b2, h.b4, h.b6, h.b7, h.b8, h.b9, h.o5, h.oz, h.of, h.ge, h.ne, h.zf, h.z5, h.f5⟩
theorem Ph.same (h : Ph w wr j p2 p4 p6 p7 p8 p9 at_ nx v5 l z f Az cz Af cf) (hb : Below wr.heap.size wr w1) : Ph w w1 j p2 p4 p6 p7 p8 p9 at_ nx v5 l z f Az cz Af cf := by
  have hk : ∀ b, b < wr.heap.size → w1.heap[b]? = wr.heap[b]? := fun b hb1 => hb.block b hb1
  have ho : ∀ {v : Value} {q : List (List UInt8)}, OwnStrs wr w.heap.size v q → OwnStrs w1 w.heap.size v q := fun {v q} ho => ho.keepb fun b hb1 => hk b (World.ownsRow.lt ho b hb1).2
  exact ⟨h.below.trans (hb.mono h.below.size), (hk _ h.b2.lt).trans h.b2, (hk _ h.b4.lt).trans h.b4, (hk _ h.b6.lt).trans h.b6, (hk _ h.b7.lt).trans h.b7, (hk _ h.b8.lt).trans h.b8, (hk _ h.b9.lt).trans h.b9, ho h.o5, ho h.oz, ho h.of, h.ge, h.ne, h.zf, h.z5, h.f5⟩
theorem Ph.push (h : Ph w wr j p2 p4 p6 p7 p8 p9 at_ nx v5 l z f Az cz Af cf) (s : List UInt8) {g cap H : Nat}
    (ow : Y.ownsRow w.heap.size 9 1 (.slice (some ⟨g, 0, none⟩) (z.length + 1) cap) (z.length + 1) (z.map sv ++ [sv s])) (hg : wr.grownBy Y (Value.slice Az z.length cz).ownBlock)
    (hl : (Value.slice Az z.length cz).ownBlock = some g ∨ g = H) (hH : wr.heap.size ≤ H) :
    Ph w (Y.setCell ⟨p8, 0, none⟩ (.slice (some ⟨g, 0, none⟩) (z.length + 1) cap)) j p2 p4 p6 p7 p8 p9 at_ nx v5 l (z ++ [s]) f (some ⟨g, 0, none⟩) cap Af cf := by
  have hlen : (z ++ [s]).length = z.length + 1 := by simp
  have hk : ∀ b, b < wr.heap.size → b ≠ p8 → some b ≠ (Value.slice Az z.length cz).ownBlock → (Y.setCell ⟨p8, 0, none⟩ (.slice (some ⟨g, 0, none⟩) (z.length + 1) cap)).heap[b]? = wr.heap[b]? := fun b h1 h2 h3 =>
    (Below.heap_setCell Y ⟨p8, 0, none⟩ _ b h2).trans (hg.block b h1 h3)
  have hB : ∀ {b : Nat} {t : TypeId} {cs : Array Value}, Blk wr b t cs → t ≠ 9 → b ≠ p8 → Blk (Y.setCell ⟨p8, 0, none⟩ (.slice (some ⟨g, 0, none⟩) (z.length + 1) cap)) b t cs := fun {b t cs} h1 h2 h3 =>
    (hk b h1.lt h3 (h.oz.ne h1 h2)).trans h1
  have hgl := (World.ownsRow.lt ow g rfl)
  have b8Y : Blk Y p8 30 #[.slice Az z.length cz] := (hg.block p8 h.b8.lt (h.oz.ne h.b8 (by decide))).trans h.b8
  have ow' : OwnStrs Y w.heap.size (.slice (some ⟨g, 0, none⟩) (z.length + 1) cap) (z ++ [s]) := by
    unfold OwnStrs
    rw [hlen, List.map_append]
    exact ow
  have hgp : g ≠ p8 := fun e => by
    obtain ⟨cur, hc⟩ := ow'.row (g := g) rfl
    subst e
    exact (b8Y.ne_ hc (by decide)) rfl
  have hsl : (wr.heap.size ≤ (Y.setCell ⟨p8, 0, none⟩ (.slice (some ⟨g, 0, none⟩) (z.length + 1) cap)).heap.size) := by rw [show (Y.setCell ⟨p8, 0, none⟩ (.slice (some ⟨g, 0, none⟩) (z.length + 1) cap)).heap.size = Y.heap.size by simp [World.setCell]]; exact hg.size
  have h5 : ∀ b, v5.ownBlock = some b → b < wr.heap.size ∧ b ≠ p8 ∧ some b ≠ (Value.slice Az z.length cz).ownBlock := fun b e => ⟨(World.ownsRow.lt h.o5 b e).2, fun e2 => h.o5.ne h.b8 (by decide) (by rw [e, e2]), fun e2 => h.z5 b e2.symm e⟩
  have hf : ∀ b, (Value.slice Af f.length cf).ownBlock = some b → b < wr.heap.size ∧ b ≠ p8 ∧ some b ≠ (Value.slice Az z.length cz).ownBlock := fun b e => ⟨(World.ownsRow.lt h.of b e).2, fun e2 => h.of.ne h.b8 (by decide) (by rw [e, e2]), fun e2 => h.zf b e2.symm e⟩
  have hgn : ∀ b, some b = some g → b < wr.heap.size → (Value.slice Az z.length cz).ownBlock = some b := fun b e hb => by
    obtain rfl : b = g := by simpa using e
    rcases hl with h1 | h1
    · exact h1
    · omega
  refine ⟨?_, hB h.b2 (by decide) (h.b2.ne_ h.b8 (by decide)), hB h.b4 (by decide) (h.b4.ne_ h.b8 (by decide)), hB h.b6 (by decide) (h.b6.ne_ h.b8 (by decide)), hB h.b7 (by decide) (h.b7.ne_ h.b8 (by decide)), ?_, hB h.b9 (by decide) (fun e => h.ne e.symm), ?_, ?_, ?_, h.ge, h.ne, ?_, ?_, h.f5⟩
  · exact (h.below.grown hg h.below.size (fun k e => (World.ownsRow.lt h.oz k e).1)).setCell h.ge.2.2.2.2.1 _
  · rw [hlen]
    exact b8Y.set_ 0 _
  · exact h.o5.keepb fun b e => hk b (h5 b e).1 (h5 b e).2.1 (h5 b e).2.2
  · rw [hlen]
    refine ow'.keepb fun b e => ?_
    obtain rfl : g = b := by simpa [Value.ownBlock] using e
    exact Below.heap_setCell Y ⟨p8, 0, none⟩ _ g hgp
  · exact h.of.keepb fun b e => hk b (hf b e).1 (hf b e).2.1 (hf b e).2.2
  · intro b e1 e2
    have h1 := hf b e2
    exact h1.2.2 (hgn b (by simpa [Value.ownBlock] using e1.symm) h1.1).symm
  · intro b e1 e2
    have h1 := h5 b e2
    exact h1.2.2 (hgn b (by simpa [Value.ownBlock] using e1.symm) h1.1).symm
end
end Go.Proofs.YtieicjjmkedgaaaGreatDoor

/- A journal in memory; Append in plain words. -/
namespace Go.Proofs.YtieicjjmkedgaaaGreatDoor
open Go.RowKit Go.Shelf

/-- The sectors of the pieces from a place on. -/
def fullS : Nat → List (List UInt8) → List (List UInt8)
  | _, [] => []
  | a, p :: r => secL a p :: fullS (a + 1) r
theorem fullS_len : ∀ (ps : List (List UInt8)) (a : Nat), (fullS a ps).length = ps.length
  | [], _ => rfl
  | _ :: r, a => by simp [fullS, fullS_len r]
theorem fullS_app : ∀ (ps qs : List (List UInt8)) (a : Nat), fullS a (ps ++ qs) = fullS a ps ++ fullS (a + ps.length) qs
  | [], _, _ => rfl
  | p :: r, qs, a => by
    simp only [List.cons_append, fullS, fullS_app r qs, List.length_cons]
    rw [show a + 1 + r.length = a + (r.length + 1) by omega]
/-- Writes one after the other, until one fails. -/
def Dk.steps (d : Dk) : List (Nat × List (List UInt8)) → Dk × Int
  | [] => (d, 0)
  | (p, l) :: r => if (d.puts p l).2 = 0 then Dk.steps (d.puts p l).1 r else d.puts p l
/-- What Append writes. -/
def writesS (cnt : Nat) (ps : List (List UInt8)) : List (Nat × List (List UInt8)) :=
  [(2 + cnt, List.replicate ps.length zeroL), (2 + cnt, fullS (2 + cnt) ps), (1, [headL 1 (cnt + ps.length)]), (0, [headL 0 (cnt + ps.length)])]
/-- Append. -/
def appendS (d : Dk) (x : Jn) (rs : List (List UInt8)) : Dk × Jn × Int :=
  if x.broken then (d, x, 12)
  else if rs.any (fun r => decide (20000 < r.length)) then (d, x, 2)
  else if (x.n : Int) - 2 - x.cnt < ((piecesL (textR rs)).length : Int) then (d, x, 27)
  else if rs = [] then (d, x, 0)
  else if (d.steps (writesS x.cnt (piecesL (textR rs)))).2 = 0 then
    ((d.steps (writesS x.cnt (piecesL (textR rs)))).1, { x with cnt := x.cnt + (piecesL (textR rs)).length, rs := x.rs ++ rs }, 0)
  else ((d.steps (writesS x.cnt (piecesL (textR rs)))).1, { x with broken := true }, (d.steps (writesS x.cnt (piecesL (textR rs)))).2)
theorem Dk.puts_q : ∀ (l : List (List UInt8)) (d : Dk) (p : Nat), (d.puts p l).1.q.length ≤ d.q.length + l.length
  | [], d, p => Nat.le_trans (Dk.sync_q d) (Nat.le_add_right _ _)
  | s :: r, d, p => by
    have h := Dk.write_q d p (bs s)
    unfold Dk.puts
    split
    · have := Dk.puts_q r (d.write p (bs s)).1 (p + 1)
      simp only [List.length_cons]
      omega
    · simp only [List.length_cons]
      omega
theorem Dk.puts_n : ∀ (l : List (List UInt8)) (d : Dk) (p : Nat), (d.puts p l).1.n = d.n
  | [], d, _ => Dk.sync_n d
  | s :: r, d, p => by
    unfold Dk.puts
    split
    · rw [Dk.puts_n r, Dk.write_n]
    · exact Dk.write_n d p (bs s)
theorem Dk.steps_n : ∀ (l : List (Nat × List (List UInt8))) (d : Dk), (d.steps l).1.n = d.n
  | [], _ => rfl
  | (p, s) :: r, d => by
    unfold Dk.steps
    split
    · rw [Dk.steps_n r, Dk.puts_n]
    · exact Dk.puts_n s d p
end Go.Proofs.YtieicjjmkedgaaaGreatDoor

/- A journal in memory; the end of an Append that went through. -/
namespace Go.Proofs.YtieicjjmkedgaaaGreatDoor
open Go.RowKit Go.Shelf

theorem endGood {w0 w W2 w9 : World} {a j p g9 cap9 : Nat} {d D : Dk} {G J GG : Foot} {n nx : Nat} {xrs rs : List (List UInt8)} {b0 b : Bool} {AR : Option Addr} {cR : Nat} {tp : TypeId} {cp : Array Value}
    (L : Live w0 w a d G) (hj : J j) (hrJ : ∀ g, (Value.slice AR xrs.length cR).ownBlock = some g → J g ∧ g ≠ j) (hJG : ∀ i, J i → G i) (hJ0 : ∀ i, J i → w0.heap.size ≤ i)
    (hGG : ∀ i, G i → GG i) (hp : w.heap.size ≤ p) (hpG : GG p) (L2 : Live w0 W2 a D GG)
    (hkW : ∀ i, G i → i ≠ j → W2.heap[i]? = w.heap[i]?) (hws : w.heap.size ≤ W2.heap.size)
    (j2 : Blk W2 j 58 #[.pointer (some ⟨a, 0, none⟩), .int .i64 (n : Int), .int .i64 (nx : Int), .slice AR xrs.length cR, .bool b0])
    (q4 : Blk W2 p tp cp) (htp : tp ≠ 9) (h4r : some p ≠ (Value.slice AR xrs.length cR).ownBlock)
    (o9 : w9.ownsRow w0.heap.size 9 1 (.slice (some ⟨g9, 0, none⟩) (xrs.length + rs.length) cap9) (xrs.length + rs.length) (xrs.map sv ++ rs.map sv))
    (gr9 : W2.drew.grownBy w9 (Value.slice AR xrs.length cR).ownBlock) (l9 : (Value.slice AR xrs.length cR).ownBlock = some g9 ∨ g9 = W2.heap.size) (u : Value) :
    ∃ J', JAt (((w9.setCell ⟨j, 3, none⟩ (.slice (some ⟨g9, 0, none⟩) (xrs.length + rs.length) cap9)).setCell ⟨p, 0, none⟩ u).setCell ⟨j, 4, none⟩ (.bool b)) w0.heap.size a j J' ⟨n, nx, xrs ++ rs, b⟩ ∧
      Live w0 (((w9.setCell ⟨j, 3, none⟩ (.slice (some ⟨g9, 0, none⟩) (xrs.length + rs.length) cap9)).setCell ⟨p, 0, none⟩ u).setCell ⟨j, 4, none⟩ (.bool b)) a D (fun i => G i ∨ J' i) ∧
      Keep (fun i => G i ∧ ¬ J i) w (((w9.setCell ⟨j, 3, none⟩ (.slice (some ⟨g9, 0, none⟩) (xrs.length + rs.length) cap9)).setCell ⟨p, 0, none⟩ u).setCell ⟨j, 4, none⟩ (.bool b)) ∧ (∀ i, J' i → J i ∨ w.heap.size ≤ i) := by
  have hlen : (xrs ++ rs).length = xrs.length + rs.length := by simp
  have hjr : some j ≠ (Value.slice AR xrs.length cR).ownBlock := fun e => (hrJ j e.symm).2 rfl
  have hjp : j ≠ p := by have := L.lt j (hJG j hj); omega
  have j9 := j2.drew.grown gr9 hjr
  have p9 := q4.drew.grown gr9 h4r
  have o9' : OwnStrs w9 w0.heap.size (.slice (some ⟨g9, 0, none⟩) (xrs.length + rs.length) cap9) (xrs ++ rs) := by unfold OwnStrs; rw [hlen, List.map_append]; exact o9
  have hg9l := World.ownsRow.lt o9 g9 rfl
  have hgj : g9 ≠ j := fun e => o9'.ne j9 (by decide) (by rw [← e]; rfl)
  have hgp : g9 ≠ p := fun e => o9'.ne p9 htp (by rw [← e]; rfl)
  generalize hv : Value.slice (some ⟨g9, 0, none⟩) (xrs.length + rs.length) cap9 = v at *
  have hk3 : ∀ i, i ≠ j → i ≠ p → (((w9.setCell ⟨j, 3, none⟩ v).setCell ⟨p, 0, none⟩ u).setCell ⟨j, 4, none⟩ (.bool b)).heap[i]? = w9.heap[i]? := fun i h1 h2 =>
    (Below.heap_setCell _ ⟨j, 4, none⟩ _ i h1).trans ((Below.heap_setCell _ ⟨p, 0, none⟩ _ i h2).trans (Below.heap_setCell _ ⟨j, 3, none⟩ _ i h1))
  have hsz3 : (((w9.setCell ⟨j, 3, none⟩ v).setCell ⟨p, 0, none⟩ u).setCell ⟨j, 4, none⟩ (.bool b)).heap.size = w9.heap.size := by simp [World.setCell]
  have hs9 : W2.heap.size ≤ w9.heap.size := gr9.size
  have hO : Only (fun i => i = j ∨ (Value.slice AR xrs.length cR).ownBlock = some i ∨ i = p) W2 (((w9.setCell ⟨j, 3, none⟩ v).setCell ⟨p, 0, none⟩ u).setCell ⟨j, 4, none⟩ (.bool b)) :=
    ⟨gr9.os, gr9.tape, gr9.output, by rw [hsz3]; exact hs9, fun i hi hn => (hk3 i (fun e => hn (.inl e)) (fun e => hn (.inr (.inr e)))).trans (gr9.block i hi (fun e => hn (.inr (.inl e.symm))))⟩
  refine ⟨fun i => J i ∨ i = g9, ⟨some ⟨g9, 0, none⟩, cap9, ?_, ?_, .inl hj, ?_⟩, ?_, ⟨?_, ?_⟩, ?_⟩
  · rw [hlen, hv]
    exact ((j9.set_ 3 v).far (p := ⟨p, 0, none⟩) hjp u).set_ 4 (.bool b)
  · rw [hlen, hv]
    exact o9'.keepb fun i e => by
      obtain rfl : g9 = i := by rw [← hv] at e; simpa [Value.ownBlock] using e
      exact hk3 g9 hgj hgp
  · intro g e
    obtain rfl : g9 = g := by simpa [Value.ownBlock] using e
    exact ⟨.inr rfl, hgj⟩
  · obtain ⟨F, h1, h2, h3⟩ := L2.disk
    have hHG : ∀ i, (i = j ∨ (Value.slice AR xrs.length cR).ownBlock = some i ∨ i = p) → GG i ∧ w0.heap.size ≤ i := by
      rintro i (rfl | h | rfl)
      · exact ⟨hGG _ (hJG _ hj), hJ0 _ hj⟩
      · exact ⟨hGG _ (hJG _ (hrJ i h).1), hJ0 _ (hrJ i h).1⟩
      · exact ⟨hpG, by have := L.below.size; omega⟩
    refine ⟨L2.below.trans (hO.below L2.below.size (fun i hi => (hHG i hi).2)), ⟨F, h1.only hO (fun i hi hh => h3 i hi (hHG i hh).1), h2, ?_⟩, ?_⟩
    · rintro i hf (hg | hg | rfl)
      · exact h3 i hf (hGG i hg)
      · exact h3 i hf (hGG i (hJG i hg))
      · rcases l9 with h | h
        · exact h3 _ hf (hGG _ (hJG _ (hrJ _ h).1))
        · have := h1.lt _ hf; omega
    · rintro i (hg | hg | rfl)
      · have := L.lt i hg; omega
      · have := L.lt i (hJG i hg); omega
      · omega
  · omega
  · intro i hi
    have hij : i ≠ j := fun e => hi.2 (by rw [e]; exact hj)
    have hil := L.lt i hi.1
    exact (hk3 i hij (by omega)).trans ((gr9.block i (by show i < W2.heap.size; omega) (fun e => hi.2 (hrJ i e.symm).1)).trans (hkW i hi.1 hij))
  · rintro i (hi | rfl)
    · exact .inl hi
    · rcases l9 with h | h
      · exact .inl (hrJ _ h).1
      · right; omega
end Go.Proofs.YtieicjjmkedgaaaGreatDoor
