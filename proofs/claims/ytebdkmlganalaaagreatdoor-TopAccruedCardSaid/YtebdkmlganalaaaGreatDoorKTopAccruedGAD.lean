/- Laws for the walk, over any program: copy into a block that is known whole, the world behind it a variable. min, max, make: XLaws has them. from and months of package calendar. -/
import Derived.Test.YtebdkmlganalaaaGreatDoorKTopAccruedPlan
import Derived.Laws.CopyOwn
import Derived.Lib.BufferWrite
import Derived.Lib.LazyBuf
import Derived.Laws.BytesArg
import Derived.Laws.MakeOwn
import Derived.StillTailTactics
import Derived.Deep.QuietTactic
import Derived.BigQuiet
import Derived.Test.YtebdkmlganalaaaGreatDoorKTopAccruedGAB
namespace Go.Proofs.YtebdkmlganalaaaGreatDoor
open Go.RowKit

/-- bytes as cells -/
def bc (l : List UInt8) : List Value := l.map fun b => Value.int .u8 (b.toNat : Int)
theorem bc_len (l : List UInt8) : (bc l).length = l.length := by simp [bc]
theorem bc_one (l : List UInt8) : ∀ v ∈ bc l, v.oneCell' = true := by
  intro v hv; simp [bc] at hv; obtain ⟨b, _, rfl⟩ := hv; rfl
theorem bc_at (l : List UInt8) (j : Nat) : (bc l)[j]? = (l[j]?).map fun b => Value.int .u8 (b.toNat : Int) := by simp [bc]
theorem bc_take (l : List UInt8) (n : Nat) : (bc l).take n = bc (l.take n) := by simp [bc, List.map_take]
theorem bc_drop (l : List UInt8) (n : Nat) : (bc l).drop n = bc (l.drop n) := by simp [bc, List.map_drop]
theorem bc_app (l m : List UInt8) : bc (l ++ m) = bc l ++ bc m := by simp [bc]
theorem bc_splice (l m : List UInt8) (k : Nat) : splice (bc l) k (bc m) = bc (splice l k m) := by simp [splice, bc, List.map_take, List.map_drop]

section
variable {P : Program} {w : World} {ops : Array Oper} {rest : List Oper} {o : Oper} {a : Act} {Q : Exit → Act → World → Prop}

theorem only_setRow (w : World) (g : Nat) (cs : Array Value) : Only (· = g) w (w.setRow g cs) :=
  ⟨rfl, rfl, rfl, by simp [World.setRow], fun i _ hn => setRow_other w g i cs hn⟩
theorem size_setRow (w : World) (g : Nat) (cs : Array Value) : (w.setRow g cs).heap.size = w.heap.size := by simp [World.setRow]

/-- copy(dst, src), both slices: dst lies in block g from off on, src at ad; both have at least cs.length elements, and one has no more. -/
theorem wpList_copy_blk (hgd : o.guard = none) (d s : Operand) (dT sT : TypeId)
    (ho : o.op = .call { callee := .builtin .copy, args := #[d, s], argTypes := #[dT, sT] }) (elem : TypeId) (hu : P.underlying dT = some (.slice elem)) (hsz : (P.info? elem).map (·.size) = some 1)
    (g off dLen dCap : Nat) (ad : Addr) (sLen sCap : Nat) (hd : a.eval d = .slice (some ⟨g, off, none⟩) dLen dCap) (hs : a.eval s = .slice (some ad) sLen sCap)
    (cur : List Value) (t : TypeId) (hg : Blk w g t cur.toArray) (cs : List Value) (hn : cs.length = Nat.min sLen dLen)
    (hsrc : ∀ j v, cs[j]? = some v → w.cell? (ad.add j) = some v) (hfit : off + cs.length ≤ cur.length) (h1 : ∀ v ∈ cs, v.oneCell' = true)
    (h : ∀ w', Blk w' g t (splice cur off cs).toArray → Only (· = g) w w' → w.heap.size ≤ w'.heap.size → wpList P ops Q rest (a.put o.dst (goInt cs.length)) w') : wpList P ops Q (o :: rest) a w := by
  refine wpList_copy_own hgd d s dT sT ho elem hu hsz g off dLen dCap ad sLen sCap hd hs cur.toArray t hg cs hn hsrc (by simpa using hfit) h1 ?_
  exact h _ (by simpa [splice, Blk] using setRow_heap w g _ _ t _ hg) (only_setRow _ _ _) (by rw [size_setRow]; exact Nat.le_refl _)

/-- copy(dst, text): the text fits. -/
theorem wpList_copy_str (hgd : o.guard = none) (d s : Operand) (dT sT : TypeId)
    (ho : o.op = .call { callee := .builtin .copy, args := #[d, s], argTypes := #[dT, sT] }) (elem : TypeId) (hu : P.underlying dT = some (.slice elem)) (hsz : (P.info? elem).map (·.size) = some 1)
    (g off dLen dCap : Nat) (x : ByteArray) (hd : a.eval d = .slice (some ⟨g, off, none⟩) dLen dCap) (hs : a.eval s = .string x)
    (cur : List Value) (t : TypeId) (hg : Blk w g t cur.toArray) (hle : x.size ≤ dLen) (hfit : off + x.size ≤ cur.length)
    (h : ∀ w', Blk w' g t (splice cur off (bc x.data.toList)).toArray → Only (· = g) w w' → w.heap.size ≤ w'.heap.size → wpList P ops Q rest (a.put o.dst (goInt x.size)) w') : wpList P ops Q (o :: rest) a w := by
  refine wpList_plain hgd fun K hK => ?_
  have hrun := Lib.run_copy_row_string (P := P) w dT sT o.type elem g off dLen dCap x cur.toArray t hu hsz hg hle (by simpa using hfit)
  unfold Oper.wp
  simp [execOp, ho, resolve, invoke, builtin, hd, hs, hrun, Result.andThen]
  refine hK _ _ (h _ ?_ (only_setRow _ _ _) (by rw [size_setRow]; exact Nat.le_refl _))
  have := setRow_heap w g cur.toArray (splice cur off (bc x.data.toList)).toArray t _ hg
  have hx : x.data.size = x.size := rfl
  simpa [splice, bc, Lib.byteCells, hx, Blk] using this

theorem run_max2 (x y z : Int) (h : z = max x y) (ts : Array TypeId) (t : TypeId) (W : World) : (Builtin.max_ ts t #[.int .i64 x, .int .i64 y]).run P W = .ok (.int .i64 z) W := by
  rw [run_max_int2]; congr 2; subst h; split <;> omega
theorem run_min2 (x y z : Int) (h : z = min x y) (ts : Array TypeId) (t : TypeId) (W : World) : (Builtin.min_ ts t #[.int .i64 x, .int .i64 y]).run P W = .ok (.int .i64 z) W := by
  rw [run_min_int2]; congr 2; subst h; split <;> omega

theorem ext_take (t : ByteArray) (m : Nat) : (t.extract 0 m).data.toList = t.data.toList.take m := by simp [ByteArray.data_extract]
theorem ext_size (t : ByteArray) (i j : Nat) (hj : j ≤ t.size) : (t.extract i j).size = j - i := by simp [ByteArray.size_extract]; omega

/-- string(b[off:off+len]) of a block that is known whole. -/
theorem run_string_of_blk (W : World) (src dst e g : Nat) (t : TypeId) (hs : P.underlying src = some (.slice e)) (he : P.underlying e = some (.int .u8)) (hd : P.underlying dst = some .string)
    (off len cap : Nat) (l : List UInt8) (hb : Blk W g t (bc l).toArray) (hl : off + len ≤ l.length) :
    (convert src dst (.slice (some ⟨g, off, none⟩) len cap)).run P W = .ok (.string ⟨((l.drop off).take len).toArray⟩) W := by
  have hlen : ((l.drop off).take len).length = len := by simp; omega
  have := run_convert_bytes_arg (P := P) W src e hs he g off len cap (((l.drop off).take len).map fun b => (b.toNat : Int)) (by simpa using hlen) (fun i hi => by
    rw [hb.cell (off + i)]
    have : i < ((l.drop off).take len).length := by omega
    simp only [List.getElem?_toArray, bc_at]
    rw [List.getElem?_eq_getElem (by omega)]
    simp [List.getD, hi, List.getElem?_drop, List.getElem?_eq_getElem (show off + i < l.length by omega)]) dst hd
  rw [this]
  congr 2
  unfold strOfNums
  congr 2
  rw [List.map_map]
  have hid : ((fun n : Int => UInt8.ofNat n.toNat) ∘ fun b : UInt8 => (b.toNat : Int)) = id := by funext b; simp
  rw [hid, List.map_id]

/-- make([]T, n), one cell an element. -/
theorem run_make_one (t e : TypeId) (z : Value) (b : Nat) (ht : P.underlying t = some (.slice e)) (hinfo : (P.info? e).map (fun i => (i.zero, i.size, i.bytes)) = some (some z, 1, b)) (hz1 : z.cells = #[z])
    (x : Int) (n : Nat) (hx : x = n) (hb : b * n ≤ 281474976710656) (hn : n ≤ 9223372036854775807) (W : World) :
    (Instr.makeSlice t (.int .i64 x) (.int .i64 x)).run P W = .ok (.slice (some ⟨W.heap.size, 0, none⟩) n n) (W.alloc (.cells (List.replicate n z).toArray e)) := by
  subst hx
  obtain ⟨i, hi, h1, h2, h3⟩ := info_parts hinfo
  have hb' : (i.bytes : Int) * (n : Int) ≤ 281474976710656 := by
    rw [h3]
    have h : ((b * n : Nat) : Int) ≤ 281474976710656 := by omega
    rwa [Int.natCast_mul] at h
  have hr := run_make (P := P) W t e i z ht hi h1 .i64 .i64 n n (by omega) (by omega) hb' (by omega)
  simp only [Int.toNat_natCast] at hr
  rw [hr, h2, hz1, Nat.mul_one]
  have : madeCells #[z] n = (List.replicate n z).toArray := by
    apply Array.toList_inj.1
    rw [toList_madeCells_one]
  rw [this]

/-- x[lo:hi] inside the capacity, one cell an element. -/
theorem run_slice_in (t e : TypeId) (ht : P.underlying t = some (.slice e)) (hs : (P.info? e).map (·.size) = some 1) (g off len cap : Nat) (lo hi : Int) (x y : Nat) (hlo : lo = x) (hhi : hi = y)
    (hxy : x ≤ y) (hy : y ≤ cap) (hx : x < cap) (W : World) :
    (Instr.slice t (.slice (some ⟨g, off, none⟩) len cap) (some (.int .i64 lo)) (some (.int .i64 hi)) none).run P W = .ok (.slice (some ⟨g, off + x, none⟩) (y - x) (cap - x)) W := by
  subst hlo hhi
  have ht' : P.underlying t = some (.slice (P.elem t)) := by simp [Program.elem, ht]
  have he : P.elem t = e := by simp [Program.elem, ht]
  rw [run_slice_lh W t _ len cap ht' .i64 .i64 x y (by omega) (by omega) (by omega), he]
  cases hq : P.info? e with
  | none => simp [hq] at hs
  | some i =>
    have hi : i.size = 1 := by simpa [hq] using hs
    simp [sizeOf, typeInfo, hq, Result.andThen, sliced, hi, Addr.add]
    split
    · omega
    · split
      · subst_vars; simp
      · rfl

/-- A region that draws its order, all of whose operations but the last few only read: in the order of the text. -/
theorem wp_region_tail {id : Nat} {l : List Oper} (n : Nat) (hm : P.follows .mixedOrders = true) (hB : Region.lexTailB .any l.toArray n = true)
    (h : wpStill P l.toArray w.drew (fun a' => wpList P l.toArray Q (l.drop n) a' w.drew) (l.take n) a) : (Code.region id l.toArray true).wp P Q a w :=
  wp_region_still_tail n hm hB h
end
end Go.Proofs.YtebdkmlganalaaaGreatDoor


namespace Go.Proofs.YtebdkmlganalaaaGreatDoor
open Go.RowKit

def fromK (l : List Int) : Nat → Int → Int
  | 0, x => x
  | k + 1, x => if isB x = true ∧ opB l x = false then fromK l k (x + 1) else x
/-- The first day from x on, on which offices are open; else the one behind the last day. -/
def fromS (l : List Int) (x : Int) : Int := fromK l (1000001 - x).toNat x
theorem fromS_eq (l : List Int) (x : Int) : fromS l x = if isB x = true ∧ opB l x = false then fromS l (x + 1) else x := by
  unfold fromS
  by_cases h : isB x = true
  · have := (isB_iff x).1 h
    obtain ⟨k, hk⟩ : ∃ k, (1000001 - x).toNat = k + 1 := ⟨(1000001 - (x + 1)).toNat, by omega⟩
    have hk2 : (1000001 - (x + 1)).toNat = k := by omega
    rw [hk, hk2]
    rfl
  · rw [if_neg (fun c => h c.1)]
    cases (1000001 - x).toNat with
    | zero => rfl
    | succ k => unfold fromK; rw [if_neg (fun c => h c.1)]
theorem fromS_spec (l : List Int) (k : Nat) : ∀ x : Int, (1000001 - x).toNat = k → x ≤ fromS l x ∧ (∀ i, x ≤ i → i < fromS l x → 0 ≤ i ∧ i ≤ 1000000 ∧ opB l i = false) ∧ (isB (fromS l x) = true → opB l (fromS l x) = true) ∧ (0 ≤ x → x ≤ 1000001 → fromS l x ≤ 1000001) := by
  induction k with
  | zero =>
    intro x hx
    have h : ¬ isB x = true := fun c => by have := (isB_iff x).1 c; omega
    have e : fromS l x = x := by rw [fromS_eq, if_neg (fun c => h c.1)]
    rw [e]
    exact ⟨Int.le_refl _, fun i h1 h2 => by omega, fun c => absurd c h, fun _ h => h⟩
  | succ k ih =>
    intro x hx
    by_cases h : isB x = true ∧ opB l x = false
    · have hb := (isB_iff x).1 h.1
      have e : fromS l x = fromS l (x + 1) := by rw [fromS_eq, if_pos h]
      obtain ⟨h1, h2, h3, h4⟩ := ih (x + 1) (by omega)
      rw [e]
      refine ⟨by omega, fun i hi1 hi2 => ?_, h3, fun _ _ => h4 (by omega) (by omega)⟩
      by_cases hix : i = x
      · subst hix; exact ⟨hb.1, hb.2, h.2⟩
      · exact h2 i (by omega) hi2
    · have e : fromS l x = x := by rw [fromS_eq, if_neg h]
      rw [e]
      refine ⟨Int.le_refl _, fun i h1 h2 => by omega, fun c => ?_, fun _ h => h⟩
      cases ho : opB l x with
      | true => rfl
      | false => exact absurd ⟨c, ho⟩ h
theorem fromS_le (l : List Int) (x : Int) : x ≤ fromS l x := (fromS_spec l _ x rfl).1
theorem fromS_no (l : List Int) {x i : Int} (h1 : x ≤ i) (h2 : i < fromS l x) : 0 ≤ i ∧ i ≤ 1000000 ∧ opB l i = false := (fromS_spec l _ x rfl).2.1 i h1 h2
theorem fromS_op (l : List Int) {x : Int} (h : isB (fromS l x) = true) : opB l (fromS l x) = true := (fromS_spec l _ x rfl).2.2.1 h
theorem fromS_top (l : List Int) {x : Int} (h0 : 0 ≤ x) (h1 : x ≤ 1000001) : fromS l x ≤ 1000001 := (fromS_spec l _ x rfl).2.2.2 h0 h1

set_option maxHeartbeats 400000 in
theorem from_any (w : World) (b k : Nat) (l : List Int) (h : ClMap w b k l) (n : Int) :
    Calls Tryz.prog 82 #[.int .i64 n, .func (.func 79) #[.map (some b)] #[]] w fun e w' => e = .returned (.int .i64 (fromS l n)) ∧ w = w' := by
  go_enter Tryz.func82, Tryz.ntmps82
  go_wp2_with fail
  go_loop [0] (fun v => ∃ x : Int, Hid (fromS l x = fromS l n) ∧ v = .int .i64 x) (fun v => (1000001 - intOf v).toNat)
  case atStart => exact ⟨n, Lib.hid rfl, rfl⟩
  case round =>
    obtain ⟨x, hx, rfl⟩ := hrel
    go_wp2_with fail
    refine (is_any _ x).mono ?_
    rintro e w1 ⟨rfl, rfl⟩
    cases hi : isB x with
    | false =>
      have hf := Lib.hid (show fromS l x = x by rw [fromS_eq, if_neg (by rw [hi]; simp)])
      clear hi
      go_wp2
      go_ret
      exact ⟨by rw [← hx.out, hf.out]; rfl, rfl⟩
    | true =>
      have hxb := (isB_iff x).1 hi
      cases ho : opB l x with
      | false =>
        have hf := Lib.hid (show fromS l x = fromS l (x + 1) by rw [fromS_eq, if_pos ⟨hi, ho⟩])
        have HO := Lib.hid ho
        clear hi ho
        go_wp2_with fail
        refine (open_any _ _ _ _ h x).mono ?_
        rintro e w1 ⟨rfl, rfl⟩
        rw [HO.out]
        go_wp2
        go_round
        case rel => exact ⟨x + 1, Lib.hid (by rw [← hx.out, hf.out]), rfl⟩
        case measure => simp [intOf]; omega
      | true =>
        have hf := Lib.hid (show fromS l x = x by rw [fromS_eq, if_neg (by rw [ho]; simp)])
        have HO := Lib.hid ho
        clear hi ho
        go_wp2_with fail
        refine (open_any _ _ _ _ h x).mono ?_
        rintro e w1 ⟨rfl, rfl⟩
        rw [HO.out]
        go_wp2
        go_ret
        exact ⟨by rw [← hx.out, hf.out]; rfl, rfl⟩

/-- What months returns: the same day of the month n months later. -/
def monS (y m d n : Int) : Int × Int :=
  if 9999 < (n + (12 * y + m - 1)) / 12 then (0, 10) else dayS ((n + (12 * y + m - 1)) / 12) ((n + (12 * y + m - 1)) % 12 + 1) (min d (ml ((n + (12 * y + m - 1)) / 12) ((n + (12 * y + m - 1)) % 12 + 1)))

set_option maxRecDepth 100000 in
set_option maxHeartbeats 1000000 in
theorem mon_any (w : World) (y m d n : Int) (hv : Vd y m d) (hn : num y m d ≤ 1000000) (hn0 : 0 ≤ n) (hn1 : n ≤ 12000000) :
    Calls Tryz.prog 81 #[.int .i64 (num y m d), .int .i64 n] w fun e w' => e = .returned (.tuple #[.int .i64 (monS y m d n).1, .int .i64 (monS y m d n).2]) ∧ Below w.heap.size w w' := by
  obtain ⟨y1, y2, m1, m2, d1, d2⟩ := hv
  have hdm := ml_bd y m
  have HV := Lib.hid (show Vd y m d from ⟨y1, y2, m1, m2, d1, d2⟩)
  unfold monS
  by_cases hc : 9999 < (n + (12 * y + m - 1)) / 12
  · rw [if_pos hc]
    go_enter Tryz.func81, Tryz.ntmps81
    go_wp2_with fail
    refine (date_yes _ y m d HV.out hn).mono ?_
    rintro e w1 ⟨rfl, hb⟩
    go_wp2
    go_ret2
    exact ⟨rfl, hb⟩
  · rw [if_neg hc]
    obtain ⟨k, hk⟩ : ∃ k : Nat, (n + (12 * y + m - 1)) % 12 = (k : Int) := ⟨((n + (12 * y + m - 1)) % 12).toNat, by omega⟩
    obtain ⟨Y, hY⟩ : ∃ Y : Int, (n + (12 * y + m - 1)) / 12 = Y := ⟨_, rfl⟩
    have hk12 : k < 12 := by omega
    rw [hk, hY]
    rw [hY] at hc
    have hY0 : 0 ≤ Y := by omega
    have hY9 : Y ≤ 9999 := by omega
    have e1 := run_min2 (P := Tryz.prog) d (ml Y ((k : Int) + 1)) (min d (ml Y ((k : Int) + 1))) rfl
    have hml := ml_bd Y ((k : Int) + 1)
    have HL := Lib.hid (lens_at Y k hk12)
    clear hc d2
    go_enter Tryz.func81, Tryz.ntmps81
    go_wp2_with fail
    refine (date_yes _ y m d HV.out hn).mono ?_
    rintro e w1 ⟨rfl, hb⟩
    go_wp2_with fail
    refine (months_any _ Y).mono ?_
    rintro e w2 ⟨rfl, hb2⟩
    unfold lens
    have hbl : Blk (w2.alloc (.cells (lensA Y) 170)) w2.heap.size 170 (lensA Y) := Blk.new w2 _ _
    have hcell := hbl.cell k
    rw [HL.out] at hcell
    unfold lensA at hcell
    have hbw : Below w.heap.size w (w2.alloc (.cells (lensA Y) 170)) := (hb.trans (hb2.mono hb.size)).alloc (by have := hb.size; have := hb2.size; omega) _
    have hsz : w.heap.size ≤ w2.heap.size + 1 := by have := hb.size; have := hb2.size; omega
    clear hbl hb hb2
    go_wp2_with fail
    refine (day_any _ Y ((k : Int) + 1) (min d (ml Y ((k : Int) + 1)))).mono ?_
    rintro e w3 ⟨rfl, hb3⟩
    have hb4 := hbw.trans (hb3.mono (by simpa using hsz))
    go_wp2
    go_ret2
    exact ⟨rfl, hb4⟩
end Go.Proofs.YtebdkmlganalaaaGreatDoor
