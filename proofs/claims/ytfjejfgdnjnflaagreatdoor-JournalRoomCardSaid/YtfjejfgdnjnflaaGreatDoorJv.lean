/- A journal in memory; the closures of Append that write. -/
import Derived.Test.YtfjejfgdnjnflaaGreatDoorJt
import Derived.Deep.RegionWith
namespace Go.Proofs.YtfjejfgdnjnflaaGreatDoor
open Go.RowKit Go.Shelf

section
variable {w0 w : World} {a : Nat} {d : Dk} {G : Foot}
set_option maxRecDepth 100000 in
theorem put3_any (L : Live w0 w a d G) (j : Nat) (v1 v2 v3 v4 : Value) (hj : Blk w j 53 #[.pointer (some ⟨a, 0, none⟩), v1, v2, v3, v4]) (hG : G j)
    (p2 p6 p8 : Nat) (place : Nat) (hp : place ≤ 1000000) (A : Option Addr) (l : List (List UInt8)) (c : Nat) (hs : StrsIn w G A l) (hq : d.q.length + l.length < 4096)
    (h2 : w.cell? ⟨p2, 0, none⟩ = some (.pointer (some ⟨j, 0, none⟩))) (h6 : w.cell? ⟨p6, 0, none⟩ = some (.int .i64 (place : Int))) (h8 : w.cell? ⟨p8, 0, none⟩ = some (.slice A l.length c)) :
    Calls Tryz.prog 50 #[.pointer (some ⟨p2, 0, none⟩), .pointer (some ⟨p6, 0, none⟩), .pointer (some ⟨p8, 0, none⟩)] w fun e w' =>
      e = .returned (.int .i64 (d.puts place l).2) ∧ Live w0 w' a (d.puts place l).1 G ∧ Keep G w w' := by
  have HP := Lib.hid (put_any L j v1 v2 v3 v4 hj hG place hp A l c hs hq)
  clear hs hj
  go_enter Tryz.func50, Tryz.ntmps50
  go_wp2_with fail
  refine HP.out.mono ?_
  rintro e w3 ⟨rfl, L3, hk⟩
  clear L HP
  go_wp2
  go_ret
  exact ⟨rfl, L3, hk⟩

set_option maxRecDepth 100000 in
theorem put4_any (L : Live w0 w a d G) (j : Nat) (v1 v2 v3 v4 : Value) (hj : Blk w j 53 #[.pointer (some ⟨a, 0, none⟩), v1, v2, v3, v4]) (hG : G j)
    (p2 p6 p8 : Nat) (place : Nat) (hp : place ≤ 1000000) (A : Option Addr) (l : List (List UInt8)) (c : Nat) (hs : StrsIn w G A l) (hq : d.q.length + l.length < 4096)
    (h2 : w.cell? ⟨p2, 0, none⟩ = some (.pointer (some ⟨j, 0, none⟩))) (h6 : w.cell? ⟨p6, 0, none⟩ = some (.int .i64 (place : Int))) (h8 : w.cell? ⟨p8, 0, none⟩ = some (.slice A l.length c)) :
    Calls Tryz.prog 51 #[.pointer (some ⟨p2, 0, none⟩), .pointer (some ⟨p6, 0, none⟩), .pointer (some ⟨p8, 0, none⟩)] w fun e w' =>
      e = .returned (.int .i64 (d.puts place l).2) ∧ Live w0 w' a (d.puts place l).1 G ∧ Keep G w w' := by
  have HP := Lib.hid (put_any L j v1 v2 v3 v4 hj hG place hp A l c hs hq)
  clear hs hj
  go_enter Tryz.func51, Tryz.ntmps51
  go_wp2_with fail
  refine HP.out.mono ?_
  rintro e w3 ⟨rfl, L3, hk⟩
  clear L HP
  go_wp2
  go_ret
  exact ⟨rfl, L3, hk⟩

/-- A slice of one text, newly laid beside the disk. -/
theorem Live.one {s : List UInt8} {w1 : World} (L : Live w0 w a d G) (hb : Below w.heap.size w w1) (t : TypeId) :
    Live w0 (w1.alloc (.cells #[.string (bs s)] t)) a d (fun i => G i ∨ i = w1.heap.size) ∧ StrsIn (w1.alloc (.cells #[.string (bs s)] t)) (fun i => G i ∨ i = w1.heap.size) (some ⟨w1.heap.size, 0, none⟩) [s] ∧ Keep G w (w1.alloc (.cells #[.string (bs s)] t)) := by
  have hsz : (w1.alloc (.cells #[.string (bs s)] t)).heap.size = w1.heap.size + 1 := by simp
  have hb2 : Below w.heap.size w (w1.alloc (.cells #[.string (bs s)] t)) := hb.alloc hb.size _
  have hs := hb.size
  refine ⟨L.more hb2 (fun i hi => ?_), fun i r hi => ?_, Keep.of_below hb2 L.lt⟩
  · rcases hi with h | rfl
    · exact .inl h
    · exact .inr ⟨hb.size, by omega⟩
  · cases i with
    | zero =>
      obtain rfl : s = r := by simpa using hi
      exact ⟨_, _, rfl, .inr rfl, (Blk.new w1 t _).cell 0⟩
    | succ i => simp at hi
theorem Live.less {H : Foot} (h : Live w0 w a d G) (hH : ∀ i, H i → G i) : Live w0 w a d H := by
  obtain ⟨F, h1, h2, h3⟩ := h.disk
  exact ⟨h.below, ⟨F, h1, h2, fun i hi hh => h3 i hi (hH i hh)⟩, fun i hi => h.lt i (hH i hi)⟩

set_option maxRecDepth 100000 in
set_option maxHeartbeats 1000000 in
theorem put5_any (L : Live w0 w a d G) (ht : Tbs w0) (j : Nat) (v1 v2 v3 v4 : Value) (hj : Blk w j 53 #[.pointer (some ⟨a, 0, none⟩), v1, v2, v3, v4]) (hG : G j)
    (p2 p7 : Nat) (n : Nat) (hn : n < 100000000) (hq : d.q.length + 1 < 4096)
    (h2 : w.cell? ⟨p2, 0, none⟩ = some (.pointer (some ⟨j, 0, none⟩))) (h7 : w.cell? ⟨p7, 0, none⟩ = some (.int .i64 (n : Int))) :
    Calls Tryz.prog 52 #[.pointer (some ⟨p2, 0, none⟩), .pointer (some ⟨p7, 0, none⟩)] w fun e w' =>
      e = .returned (.int .i64 (d.puts 1 [headL 1 n]).2) ∧ Live w0 w' a (d.puts 1 [headL 1 n]).1 G ∧ Keep G w w' := by
  have hh : ∀ W, Tbs W → Calls Tryz.prog 40 #[.int .i64 1, .int .i64 (n : Int)] W fun e w' => e = .returned (.string (bs (headL 1 n))) ∧ Below W.heap.size W w' := fun W hW => head_place_any W hW 1 (by omega) n hn
  have HH := Lib.hid hh
  have hp : ∀ w1, Below w.drew.heap.size w.drew w1 → Calls Tryz.prog 42 #[.pointer (some ⟨j, 0, none⟩), .int .i64 1, .slice (some ⟨w1.heap.size, 0, none⟩) 1 1] (w1.alloc (.cells #[.string (bs (headL 1 n))] 9)) fun e w' =>
      e = .returned (.int .i64 (d.puts 1 [headL 1 n]).2) ∧ Live w0 w' a (d.puts 1 [headL 1 n]).1 G ∧ Keep G w w' := by
    intro w1 hbd
    have hb : Below w.heap.size w w1 := ⟨hbd.os, hbd.tape, hbd.output, hbd.size, hbd.block⟩
    obtain ⟨L1, s1, k1⟩ := L.one (s := headL 1 n) hb 9
    refine (put_any L1 j v1 v2 v3 v4 (hj.keep k1 hG) (.inl hG) 1 (by omega) _ _ 1 s1 (by simp; omega)).mono ?_
    rintro e w' ⟨he, L3, k3⟩
    exact ⟨he, L3.less fun i hi => .inl hi, k1.trans (k3.mono fun i hi => .inl hi)⟩
  have HP := Lib.hid hp
  have ht2 : Tbs w := ht.below L.below
  have htd : Tbs w.drew := ht2.below ⟨rfl, rfl, rfl, Nat.le_refl _, fun _ _ => rfl⟩
  have HT := Lib.hid htd
  have hl2 := World.block_lt_of_cell? _ _ h2
  have hl7 := World.block_lt_of_cell? _ _ h7
  clear hj hp hh ht2 htd
  go_enter Tryz.func52, Tryz.ntmps52
  go_wp2_with fail
  go_region_with (first | (go_at_call 40; refine (HH.out _ HT.out).mono ?_; rintro e w1 ⟨rfl, b1⟩; have g2 : w1.cell? ⟨p2, 0, none⟩ = some (.pointer (some ⟨j, 0, none⟩)) := (b1.cell (p := ⟨p2, 0, none⟩) hl2).trans h2; have g3 := Lib.cell?_alloc_some (.cells #[.string (bs (headL 1 n))] 9) g2) | (go_at_call 42; refine (HP.out _ (by assumption)).mono ?_; rintro e w4 ⟨rfl, L4, k4⟩))
  all_goals (go_wp2; go_ret; exact ⟨rfl, L4, k4⟩)

set_option maxRecDepth 100000 in
set_option maxHeartbeats 1000000 in
theorem put6_any (L : Live w0 w a d G) (ht : Tbs w0) (j : Nat) (v1 v2 v3 v4 : Value) (hj : Blk w j 53 #[.pointer (some ⟨a, 0, none⟩), v1, v2, v3, v4]) (hG : G j)
    (p2 p7 : Nat) (n : Nat) (hn : n < 100000000) (hq : d.q.length + 1 < 4096)
    (h2 : w.cell? ⟨p2, 0, none⟩ = some (.pointer (some ⟨j, 0, none⟩))) (h7 : w.cell? ⟨p7, 0, none⟩ = some (.int .i64 (n : Int))) :
    Calls Tryz.prog 53 #[.pointer (some ⟨p2, 0, none⟩), .pointer (some ⟨p7, 0, none⟩)] w fun e w' =>
      e = .returned (.int .i64 (d.puts 0 [headL 0 n]).2) ∧ Live w0 w' a (d.puts 0 [headL 0 n]).1 G ∧ Keep G w w' := by
  have hh : ∀ W, Tbs W → Calls Tryz.prog 40 #[.int .i64 0, .int .i64 (n : Int)] W fun e w' => e = .returned (.string (bs (headL 0 n))) ∧ Below W.heap.size W w' := fun W hW => head_place_any W hW 0 (by omega) n hn
  have HH := Lib.hid hh
  have hp : ∀ w1, Below w.drew.heap.size w.drew w1 → Calls Tryz.prog 42 #[.pointer (some ⟨j, 0, none⟩), .int .i64 0, .slice (some ⟨w1.heap.size, 0, none⟩) 1 1] (w1.alloc (.cells #[.string (bs (headL 0 n))] 9)) fun e w' =>
      e = .returned (.int .i64 (d.puts 0 [headL 0 n]).2) ∧ Live w0 w' a (d.puts 0 [headL 0 n]).1 G ∧ Keep G w w' := by
    intro w1 hbd
    have hb : Below w.heap.size w w1 := ⟨hbd.os, hbd.tape, hbd.output, hbd.size, hbd.block⟩
    obtain ⟨L1, s1, k1⟩ := L.one (s := headL 0 n) hb 9
    refine (put_any L1 j v1 v2 v3 v4 (hj.keep k1 hG) (.inl hG) 0 (by omega) _ _ 1 s1 (by simp; omega)).mono ?_
    rintro e w' ⟨he, L3, k3⟩
    exact ⟨he, L3.less fun i hi => .inl hi, k1.trans (k3.mono fun i hi => .inl hi)⟩
  have HP := Lib.hid hp
  have ht2 : Tbs w := ht.below L.below
  have htd : Tbs w.drew := ht2.below ⟨rfl, rfl, rfl, Nat.le_refl _, fun _ _ => rfl⟩
  have HT := Lib.hid htd
  have hl2 := World.block_lt_of_cell? _ _ h2
  have hl7 := World.block_lt_of_cell? _ _ h7
  clear hj hp hh ht2 htd
  go_enter Tryz.func53, Tryz.ntmps53
  go_wp2_with fail
  go_region_with (first | (go_at_call 40; refine (HH.out _ HT.out).mono ?_; rintro e w1 ⟨rfl, b1⟩; have g2 : w1.cell? ⟨p2, 0, none⟩ = some (.pointer (some ⟨j, 0, none⟩)) := (b1.cell (p := ⟨p2, 0, none⟩) hl2).trans h2; have g3 := Lib.cell?_alloc_some (.cells #[.string (bs (headL 0 n))] 9) g2) | (go_at_call 42; refine (HP.out _ (by assumption)).mono ?_; rintro e w4 ⟨rfl, L4, k4⟩))
  all_goals (go_wp2; go_ret; exact ⟨rfl, L4, k4⟩)
end
end Go.Proofs.YtfjejfgdnjnflaaGreatDoor
