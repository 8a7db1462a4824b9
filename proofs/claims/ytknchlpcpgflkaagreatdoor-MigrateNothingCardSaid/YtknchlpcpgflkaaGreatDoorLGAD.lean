/- Laws for the walk, over any program: copy into a block that is known whole, the world behind it a variable. min, max, make: XLaws has them. from and months of package calendar. -/
import Derived.Test.YtknchlpcpgflkaaGreatDoorLPlan
import Derived.Laws.CopyOwn
import Derived.Lib.BufferWrite
import Derived.Lib.LazyBuf
import Derived.Laws.BytesArg
import Derived.Laws.MakeOwn
import Derived.StillTailTactics
import Derived.Deep.QuietTactic
import Derived.BigQuiet
import Derived.Test.YtknchlpcpgflkaaGreatDoorLGAB
namespace Go.Proofs.YtknchlpcpgflkaaGreatDoor
open Go.RowKit

/-- bytes as cells -/
def bc (l : List UInt8) : List Value := l.map fun b => Value.int .u8 (b.toNat : Int)
section
variable {P : Program} {w : World} {ops : Array Oper} {rest : List Oper} {o : Oper} {a : Act} {Q : Exit → Act → World → Prop}

theorem only_setRow (w : World) (g : Nat) (cs : Array Value) : Only (· = g) w (w.setRow g cs) :=
  ⟨rfl, rfl, rfl, by simp [World.setRow], fun i _ hn => setRow_other w g i cs hn⟩
theorem size_setRow (w : World) (g : Nat) (cs : Array Value) : (w.setRow g cs).heap.size = w.heap.size := by simp [World.setRow]

theorem run_max2 (x y z : Int) (h : z = max x y) (ts : Array TypeId) (t : TypeId) (W : World) : (Builtin.max_ ts t #[.int .i64 x, .int .i64 y]).run P W = .ok (.int .i64 z) W := by
  rw [run_max_int2]; congr 2; subst h; split <;> omega
theorem run_min2 (x y z : Int) (h : z = min x y) (ts : Array TypeId) (t : TypeId) (W : World) : (Builtin.min_ ts t #[.int .i64 x, .int .i64 y]).run P W = .ok (.int .i64 z) W := by
  rw [run_min_int2]; congr 2; subst h; split <;> omega

/-- A region that draws its order, all of whose operations but the last few only read: in the order of the text. -/
theorem wp_region_tail {id : Nat} {l : List Oper} (n : Nat) (hm : P.follows .mixedOrders = true) (hB : Region.lexTailB .any l.toArray n = true)
    (h : wpStill P l.toArray w.drew (fun a' => wpList P l.toArray Q (l.drop n) a' w.drew) (l.take n) a) : (Code.region id l.toArray true).wp P Q a w :=
  wp_region_still_tail n hm hB h
end
end Go.Proofs.YtknchlpcpgflkaaGreatDoor


namespace Go.Proofs.YtknchlpcpgflkaaGreatDoor
open Go.RowKit

def fromK (l : List Int) : Nat → Int → Int
  | 0, x => x
  | k + 1, x => if isB x = true ∧ opB l x = false then fromK l k (x + 1) else x
/-- The first day from x on, on which offices are open; else the one behind the last day. -/
def fromS (l : List Int) (x : Int) : Int := fromK l (1000001 - x).toNat x
theorem fromS_eq (l : List Int) (x : Int) : fromS l x = if isB x = true ∧ opB l x = false then fromS l (x + 1) else x := by
  unfold fromS
  by_cases h : isB x = true
  · have := (isB_iff x).1 h
    obtain ⟨k, hk⟩ : ∃ k, (1000001 - x).toNat = k + 1 := ⟨(1000001 - (x + 1)).toNat, by omega⟩
    have hk2 : (1000001 - (x + 1)).toNat = k := by omega
    rw [hk, hk2]
    rfl
  · rw [if_neg (fun c => h c.1)]
    cases (1000001 - x).toNat with
    | zero => rfl
    | succ k => unfold fromK; rw [if_neg (fun c => h c.1)]
theorem fromS_spec (l : List Int) (k : Nat) : ∀ x : Int, (1000001 - x).toNat = k → x ≤ fromS l x ∧ (∀ i, x ≤ i → i < fromS l x → 0 ≤ i ∧ i ≤ 1000000 ∧ opB l i = false) ∧ (isB (fromS l x) = true → opB l (fromS l x) = true) ∧ (0 ≤ x → x ≤ 1000001 → fromS l x ≤ 1000001) := by
  induction k with
  | zero =>
    intro x hx
    have h : ¬ isB x = true := fun c => by have := (isB_iff x).1 c; omega
    have e : fromS l x = x := by rw [fromS_eq, if_neg (fun c => h c.1)]
    rw [e]
    exact ⟨Int.le_refl _, fun i h1 h2 => by omega, fun c => absurd c h, fun _ h => h⟩
  | succ k ih =>
    intro x hx
    by_cases h : isB x = true ∧ opB l x = false
    · have hb := (isB_iff x).1 h.1
      have e : fromS l x = fromS l (x + 1) := by rw [fromS_eq, if_pos h]
      obtain ⟨h1, h2, h3, h4⟩ := ih (x + 1) (by omega)
      rw [e]
      refine ⟨by omega, fun i hi1 hi2 => ?_, h3, fun _ _ => h4 (by omega) (by omega)⟩
      by_cases hix : i = x
      · subst hix; exact ⟨hb.1, hb.2, h.2⟩
      · exact h2 i (by omega) hi2
    · have e : fromS l x = x := by rw [fromS_eq, if_neg h]
      rw [e]
      refine ⟨Int.le_refl _, fun i h1 h2 => by omega, fun c => ?_, fun _ h => h⟩
      cases ho : opB l x with
      | true => rfl
      | false => exact absurd ⟨c, ho⟩ h
theorem fromS_le (l : List Int) (x : Int) : x ≤ fromS l x := (fromS_spec l _ x rfl).1
theorem fromS_op (l : List Int) {x : Int} (h : isB (fromS l x) = true) : opB l (fromS l x) = true := (fromS_spec l _ x rfl).2.2.1 h
set_option maxHeartbeats 400000 in
theorem from_any (w : World) (b k : Nat) (l : List Int) (h : ClMap w b k l) (n : Int) :
    Calls Tryz.prog 90 #[.int .i64 n, .func (.func 87) #[.map (some b)] #[]] w fun e w' => e = .returned (.int .i64 (fromS l n)) ∧ w = w' := by
  go_enter Tryz.func90, Tryz.ntmps90
  go_wp2_with fail
  go_loop [0] (fun v => ∃ x : Int, Hid (fromS l x = fromS l n) ∧ v = .int .i64 x) (fun v => (1000001 - intOf v).toNat)
  case atStart => exact ⟨n, Lib.hid rfl, rfl⟩
  case round =>
    obtain ⟨x, hx, rfl⟩ := hrel
    go_wp2_with fail
    refine (is_any _ x).mono ?_
    rintro e w1 ⟨rfl, rfl⟩
    cases hi : isB x with
    | false =>
      have hf := Lib.hid (show fromS l x = x by rw [fromS_eq, if_neg (by rw [hi]; simp)])
      clear hi
      go_wp2
      go_ret
      exact ⟨by rw [← hx.out, hf.out]; rfl, rfl⟩
    | true =>
      have hxb := (isB_iff x).1 hi
      cases ho : opB l x with
      | false =>
        have hf := Lib.hid (show fromS l x = fromS l (x + 1) by rw [fromS_eq, if_pos ⟨hi, ho⟩])
        have HO := Lib.hid ho
        clear hi ho
        go_wp2_with fail
        refine (open_any _ _ _ _ h x).mono ?_
        rintro e w1 ⟨rfl, rfl⟩
        rw [HO.out]
        go_wp2
        go_round
        case rel => exact ⟨x + 1, Lib.hid (by rw [← hx.out, hf.out]), rfl⟩
        case measure => simp [intOf]; omega
      | true =>
        have hf := Lib.hid (show fromS l x = x by rw [fromS_eq, if_neg (by rw [ho]; simp)])
        have HO := Lib.hid ho
        clear hi ho
        go_wp2_with fail
        refine (open_any _ _ _ _ h x).mono ?_
        rintro e w1 ⟨rfl, rfl⟩
        rw [HO.out]
        go_wp2
        go_ret
        exact ⟨by rw [← hx.out, hf.out]; rfl, rfl⟩

/-- What months returns: the same day of the month n months later. -/
def monS (y m d n : Int) : Int × Int :=
  if 9999 < (n + (12 * y + m - 1)) / 12 then (0, 10) else dayS ((n + (12 * y + m - 1)) / 12) ((n + (12 * y + m - 1)) % 12 + 1) (min d (ml ((n + (12 * y + m - 1)) / 12) ((n + (12 * y + m - 1)) % 12 + 1)))

set_option maxRecDepth 100000 in
set_option maxHeartbeats 1000000 in
theorem mon_any (w : World) (y m d n : Int) (hv : Vd y m d) (hn : num y m d ≤ 1000000) (hn0 : 0 ≤ n) (hn1 : n ≤ 12000000) :
    Calls Tryz.prog 89 #[.int .i64 (num y m d), .int .i64 n] w fun e w' => e = .returned (.tuple #[.int .i64 (monS y m d n).1, .int .i64 (monS y m d n).2]) ∧ Below w.heap.size w w' := by
  obtain ⟨y1, y2, m1, m2, d1, d2⟩ := hv
  have hdm := ml_bd y m
  have HV := Lib.hid (show Vd y m d from ⟨y1, y2, m1, m2, d1, d2⟩)
  unfold monS
  by_cases hc : 9999 < (n + (12 * y + m - 1)) / 12
  · rw [if_pos hc]
    go_enter Tryz.func89, Tryz.ntmps89
    go_wp2_with fail
    refine (date_yes _ y m d HV.out hn).mono ?_
    rintro e w1 ⟨rfl, hb⟩
    go_wp2
    go_ret2
    exact ⟨rfl, hb⟩
  · rw [if_neg hc]
    obtain ⟨k, hk⟩ : ∃ k : Nat, (n + (12 * y + m - 1)) % 12 = (k : Int) := ⟨((n + (12 * y + m - 1)) % 12).toNat, by omega⟩
    obtain ⟨Y, hY⟩ : ∃ Y : Int, (n + (12 * y + m - 1)) / 12 = Y := ⟨_, rfl⟩
    have hk12 : k < 12 := by omega
    rw [hk, hY]
    rw [hY] at hc
    have hY0 : 0 ≤ Y := by omega
    have hY9 : Y ≤ 9999 := by omega
    have e1 := run_min2 (P := Tryz.prog) d (ml Y ((k : Int) + 1)) (min d (ml Y ((k : Int) + 1))) rfl
    have hml := ml_bd Y ((k : Int) + 1)
    have HL := Lib.hid (lens_at Y k hk12)
    clear hc d2
    go_enter Tryz.func89, Tryz.ntmps89
    go_wp2_with fail
    refine (date_yes _ y m d HV.out hn).mono ?_
    rintro e w1 ⟨rfl, hb⟩
    go_wp2_with fail
    refine (months_any _ Y).mono ?_
    rintro e w2 ⟨rfl, hb2⟩
    unfold lens
    have hbl : Blk (w2.alloc (.cells (lensA Y) 175)) w2.heap.size 175 (lensA Y) := Blk.new w2 _ _
    have hcell := hbl.cell k
    rw [HL.out] at hcell
    unfold lensA at hcell
    have hbw : Below w.heap.size w (w2.alloc (.cells (lensA Y) 175)) := (hb.trans (hb2.mono hb.size)).alloc (by have := hb.size; have := hb2.size; omega) _
    have hsz : w.heap.size ≤ w2.heap.size + 1 := by have := hb.size; have := hb2.size; omega
    clear hbl hb hb2
    go_wp2_with fail
    refine (day_any _ Y ((k : Int) + 1) (min d (ml Y ((k : Int) + 1)))).mono ?_
    rintro e w3 ⟨rfl, hb3⟩
    have hb4 := hbw.trans (hb3.mono (by simpa using hsz))
    go_wp2
    go_ret2
    exact ⟨rfl, hb4⟩
end Go.Proofs.YtknchlpcpgflkaaGreatDoor
