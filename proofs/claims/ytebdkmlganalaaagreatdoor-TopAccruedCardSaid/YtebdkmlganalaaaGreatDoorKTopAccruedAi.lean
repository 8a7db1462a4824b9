/- w09Moved: the example. -/
import Derived.Test.YtebdkmlganalaaaGreatDoorKTopAccruedGBS
import Derived.Test.YtebdkmlganalaaaGreatDoorKTopAccruedGBU
import Derived.Test.YtebdkmlganalaaaGreatDoorKTopAccruedGAU
import Derived.Test.YtebdkmlganalaaaGreatDoorKTopAccruedGBJ
namespace Go.Proofs.YtebdkmlganalaaaGreatDoor
open Go.RowKit Go.Shelf

set_option maxRecDepth 100000 in
set_option maxHeartbeats 8000000 in
theorem wmoved_any (w : World) (ht : Tbs w) : Calls Tryz.prog 4 #[] w fun e w' => e = .returned (.bool true) ∧ Below w.heap.size w w' := by
  have hpr := wprocs_any w
  have HT := Lib.hid ht
  clear ht
  go_enter Tryz.func4, Tryz.ntmps4
  go_wp2_with fail
  refine hpr.mono ?_
  rintro e W1 ⟨⟨p1, q1, p2, q2⟩, ⟨p3, q3, p4, q4⟩, he, hP, hQ, b1⟩
  obtain rfl : e = .returned (.tuple #[.agg #[.string ⟨#[111, 108, 100]⟩, .slice p1 2 q1, .slice p2 1 q2], .agg #[.string ⟨#[110, 101, 119]⟩, .slice p3 3 q3, .slice p4 2 q4]]) := he
  clear hpr
  go_upto_region 4 with fail
  have hb := (((((((((below_self_alloc W1 (.cells #[.string ⟨#[111, 108, 100]⟩, .slice p1 2 q1, .slice p2 1 q2] 34)).alloc (by simp) (.cells #[.string ⟨#[110, 101, 119]⟩, .slice p3 3 q3, .slice p4 2 q4] 34)).alloc (by simp; omega) (.cells #[.int .i64 7] 3)).alloc (by simp; omega) (.cells #[.string ⟨#[97, 112, 112, 101, 97, 108]⟩, .int .i64 7] 53)).alloc (by simp; omega) (.cells #[.string ⟨#[97, 110, 115, 119, 101, 114]⟩, .int .i64 30, .int .i64 1, .int .i64 7, .slice none 0 0] 66)).alloc (by simp; omega) (.cells #[.string ⟨#[109, 49]⟩, .int .i64 5, .slice none 0 0, .string ⟨#[111, 108, 100]⟩, .int .i64 1, .slice (some ⟨W1.heap.size + 1 + 1, 0, none⟩) 1 1, .slice (some ⟨W1.heap.size + 1 + 1 + 1, 0, none⟩) 1 1, .slice (some ⟨W1.heap.size + 1 + 1 + 1 + 1, 0, none⟩) 1 1] 27)).alloc (by simp; omega) (.cells #[.int .i64 0, .int .i64 2] 3)).alloc (by simp; omega) (.cells #[.string ⟨#[97, 112, 112, 101, 97, 108]⟩, .string ⟨#[114, 101, 118, 105, 101, 119]⟩] 67)).alloc (by simp; omega) (.cells #[.string ⟨#[97, 110, 115, 119, 101, 114]⟩, .int .i64 1, .int .i64 1, .int .i64 10, .slice none 0 0] 66)).alloc (by simp; omega) (.cells #[.string ⟨#[111, 108, 100]⟩, .string ⟨#[110, 101, 119]⟩, .slice (some ⟨W1.heap.size + 1 + 1 + 1 + 1 + 1 + 1, 0, none⟩) 2 2, .slice (some ⟨W1.heap.size + 1 + 1 + 1 + 1 + 1 + 1 + 1, 0, none⟩) 1 1, .slice (some ⟨W1.heap.size + 1 + 1 + 1 + 1 + 1 + 1 + 1 + 1, 0, none⟩) 1 1] 30)
  have hsz : (((((((((((W1.alloc (.cells #[.string ⟨#[111, 108, 100]⟩, .slice p1 2 q1, .slice p2 1 q2] 34)).alloc (.cells #[.string ⟨#[110, 101, 119]⟩, .slice p3 3 q3, .slice p4 2 q4] 34)).alloc (.cells #[.int .i64 7] 3)).alloc (.cells #[.string ⟨#[97, 112, 112, 101, 97, 108]⟩, .int .i64 7] 53)).alloc (.cells #[.string ⟨#[97, 110, 115, 119, 101, 114]⟩, .int .i64 30, .int .i64 1, .int .i64 7, .slice none 0 0] 66)).alloc (.cells #[.string ⟨#[109, 49]⟩, .int .i64 5, .slice none 0 0, .string ⟨#[111, 108, 100]⟩, .int .i64 1, .slice (some ⟨W1.heap.size + 1 + 1, 0, none⟩) 1 1, .slice (some ⟨W1.heap.size + 1 + 1 + 1, 0, none⟩) 1 1, .slice (some ⟨W1.heap.size + 1 + 1 + 1 + 1, 0, none⟩) 1 1] 27)).alloc (.cells #[.int .i64 0, .int .i64 2] 3)).alloc (.cells #[.string ⟨#[97, 112, 112, 101, 97, 108]⟩, .string ⟨#[114, 101, 118, 105, 101, 119]⟩] 67)).alloc (.cells #[.string ⟨#[97, 110, 115, 119, 101, 114]⟩, .int .i64 1, .int .i64 1, .int .i64 10, .slice none 0 0] 66)).alloc (.cells #[.string ⟨#[111, 108, 100]⟩, .string ⟨#[110, 101, 119]⟩, .slice (some ⟨W1.heap.size + 1 + 1 + 1 + 1 + 1 + 1, 0, none⟩) 2 2, .slice (some ⟨W1.heap.size + 1 + 1 + 1 + 1 + 1 + 1 + 1, 0, none⟩) 1 1, .slice (some ⟨W1.heap.size + 1 + 1 + 1 + 1 + 1 + 1 + 1 + 1, 0, none⟩) 1 1] 30))).heap.size = W1.heap.size + 1 + 1 + 1 + 1 + 1 + 1 + 1 + 1 + 1 + 1 := by simp
  have k0 := (((((((((Blk.new W1 34 #[.string ⟨#[111, 108, 100]⟩, .slice p1 2 q1, .slice p2 1 q2]).alloc (.cells #[.string ⟨#[110, 101, 119]⟩, .slice p3 3 q3, .slice p4 2 q4] 34)).alloc (.cells #[.int .i64 7] 3)).alloc (.cells #[.string ⟨#[97, 112, 112, 101, 97, 108]⟩, .int .i64 7] 53)).alloc (.cells #[.string ⟨#[97, 110, 115, 119, 101, 114]⟩, .int .i64 30, .int .i64 1, .int .i64 7, .slice none 0 0] 66)).alloc (.cells #[.string ⟨#[109, 49]⟩, .int .i64 5, .slice none 0 0, .string ⟨#[111, 108, 100]⟩, .int .i64 1, .slice (some ⟨W1.heap.size + 1 + 1, 0, none⟩) 1 1, .slice (some ⟨W1.heap.size + 1 + 1 + 1, 0, none⟩) 1 1, .slice (some ⟨W1.heap.size + 1 + 1 + 1 + 1, 0, none⟩) 1 1] 27)).alloc (.cells #[.int .i64 0, .int .i64 2] 3)).alloc (.cells #[.string ⟨#[97, 112, 112, 101, 97, 108]⟩, .string ⟨#[114, 101, 118, 105, 101, 119]⟩] 67)).alloc (.cells #[.string ⟨#[97, 110, 115, 119, 101, 114]⟩, .int .i64 1, .int .i64 1, .int .i64 10, .slice none 0 0] 66)).alloc (.cells #[.string ⟨#[111, 108, 100]⟩, .string ⟨#[110, 101, 119]⟩, .slice (some ⟨W1.heap.size + 1 + 1 + 1 + 1 + 1 + 1, 0, none⟩) 2 2, .slice (some ⟨W1.heap.size + 1 + 1 + 1 + 1 + 1 + 1 + 1, 0, none⟩) 1 1, .slice (some ⟨W1.heap.size + 1 + 1 + 1 + 1 + 1 + 1 + 1 + 1, 0, none⟩) 1 1] 30)
  have k1 := ((((((((Blk.new (W1.alloc (.cells #[.string ⟨#[111, 108, 100]⟩, .slice p1 2 q1, .slice p2 1 q2] 34)) 34 #[.string ⟨#[110, 101, 119]⟩, .slice p3 3 q3, .slice p4 2 q4]).alloc (.cells #[.int .i64 7] 3)).alloc (.cells #[.string ⟨#[97, 112, 112, 101, 97, 108]⟩, .int .i64 7] 53)).alloc (.cells #[.string ⟨#[97, 110, 115, 119, 101, 114]⟩, .int .i64 30, .int .i64 1, .int .i64 7, .slice none 0 0] 66)).alloc (.cells #[.string ⟨#[109, 49]⟩, .int .i64 5, .slice none 0 0, .string ⟨#[111, 108, 100]⟩, .int .i64 1, .slice (some ⟨W1.heap.size + 1 + 1, 0, none⟩) 1 1, .slice (some ⟨W1.heap.size + 1 + 1 + 1, 0, none⟩) 1 1, .slice (some ⟨W1.heap.size + 1 + 1 + 1 + 1, 0, none⟩) 1 1] 27)).alloc (.cells #[.int .i64 0, .int .i64 2] 3)).alloc (.cells #[.string ⟨#[97, 112, 112, 101, 97, 108]⟩, .string ⟨#[114, 101, 118, 105, 101, 119]⟩] 67)).alloc (.cells #[.string ⟨#[97, 110, 115, 119, 101, 114]⟩, .int .i64 1, .int .i64 1, .int .i64 10, .slice none 0 0] 66)).alloc (.cells #[.string ⟨#[111, 108, 100]⟩, .string ⟨#[110, 101, 119]⟩, .slice (some ⟨W1.heap.size + 1 + 1 + 1 + 1 + 1 + 1, 0, none⟩) 2 2, .slice (some ⟨W1.heap.size + 1 + 1 + 1 + 1 + 1 + 1 + 1, 0, none⟩) 1 1, .slice (some ⟨W1.heap.size + 1 + 1 + 1 + 1 + 1 + 1 + 1 + 1, 0, none⟩) 1 1] 30)
  rw [show ((W1.alloc (.cells #[.string ⟨#[111, 108, 100]⟩, .slice p1 2 q1, .slice p2 1 q2] 34))).heap.size = W1.heap.size + 1 from by simp] at k1
  have k2 := (((((((Blk.new ((W1.alloc (.cells #[.string ⟨#[111, 108, 100]⟩, .slice p1 2 q1, .slice p2 1 q2] 34)).alloc (.cells #[.string ⟨#[110, 101, 119]⟩, .slice p3 3 q3, .slice p4 2 q4] 34)) 3 #[.int .i64 7]).alloc (.cells #[.string ⟨#[97, 112, 112, 101, 97, 108]⟩, .int .i64 7] 53)).alloc (.cells #[.string ⟨#[97, 110, 115, 119, 101, 114]⟩, .int .i64 30, .int .i64 1, .int .i64 7, .slice none 0 0] 66)).alloc (.cells #[.string ⟨#[109, 49]⟩, .int .i64 5, .slice none 0 0, .string ⟨#[111, 108, 100]⟩, .int .i64 1, .slice (some ⟨W1.heap.size + 1 + 1, 0, none⟩) 1 1, .slice (some ⟨W1.heap.size + 1 + 1 + 1, 0, none⟩) 1 1, .slice (some ⟨W1.heap.size + 1 + 1 + 1 + 1, 0, none⟩) 1 1] 27)).alloc (.cells #[.int .i64 0, .int .i64 2] 3)).alloc (.cells #[.string ⟨#[97, 112, 112, 101, 97, 108]⟩, .string ⟨#[114, 101, 118, 105, 101, 119]⟩] 67)).alloc (.cells #[.string ⟨#[97, 110, 115, 119, 101, 114]⟩, .int .i64 1, .int .i64 1, .int .i64 10, .slice none 0 0] 66)).alloc (.cells #[.string ⟨#[111, 108, 100]⟩, .string ⟨#[110, 101, 119]⟩, .slice (some ⟨W1.heap.size + 1 + 1 + 1 + 1 + 1 + 1, 0, none⟩) 2 2, .slice (some ⟨W1.heap.size + 1 + 1 + 1 + 1 + 1 + 1 + 1, 0, none⟩) 1 1, .slice (some ⟨W1.heap.size + 1 + 1 + 1 + 1 + 1 + 1 + 1 + 1, 0, none⟩) 1 1] 30)
  rw [show (((W1.alloc (.cells #[.string ⟨#[111, 108, 100]⟩, .slice p1 2 q1, .slice p2 1 q2] 34)).alloc (.cells #[.string ⟨#[110, 101, 119]⟩, .slice p3 3 q3, .slice p4 2 q4] 34))).heap.size = W1.heap.size + 1 + 1 from by simp] at k2
  have k3 := ((((((Blk.new (((W1.alloc (.cells #[.string ⟨#[111, 108, 100]⟩, .slice p1 2 q1, .slice p2 1 q2] 34)).alloc (.cells #[.string ⟨#[110, 101, 119]⟩, .slice p3 3 q3, .slice p4 2 q4] 34)).alloc (.cells #[.int .i64 7] 3)) 53 #[.string ⟨#[97, 112, 112, 101, 97, 108]⟩, .int .i64 7]).alloc (.cells #[.string ⟨#[97, 110, 115, 119, 101, 114]⟩, .int .i64 30, .int .i64 1, .int .i64 7, .slice none 0 0] 66)).alloc (.cells #[.string ⟨#[109, 49]⟩, .int .i64 5, .slice none 0 0, .string ⟨#[111, 108, 100]⟩, .int .i64 1, .slice (some ⟨W1.heap.size + 1 + 1, 0, none⟩) 1 1, .slice (some ⟨W1.heap.size + 1 + 1 + 1, 0, none⟩) 1 1, .slice (some ⟨W1.heap.size + 1 + 1 + 1 + 1, 0, none⟩) 1 1] 27)).alloc (.cells #[.int .i64 0, .int .i64 2] 3)).alloc (.cells #[.string ⟨#[97, 112, 112, 101, 97, 108]⟩, .string ⟨#[114, 101, 118, 105, 101, 119]⟩] 67)).alloc (.cells #[.string ⟨#[97, 110, 115, 119, 101, 114]⟩, .int .i64 1, .int .i64 1, .int .i64 10, .slice none 0 0] 66)).alloc (.cells #[.string ⟨#[111, 108, 100]⟩, .string ⟨#[110, 101, 119]⟩, .slice (some ⟨W1.heap.size + 1 + 1 + 1 + 1 + 1 + 1, 0, none⟩) 2 2, .slice (some ⟨W1.heap.size + 1 + 1 + 1 + 1 + 1 + 1 + 1, 0, none⟩) 1 1, .slice (some ⟨W1.heap.size + 1 + 1 + 1 + 1 + 1 + 1 + 1 + 1, 0, none⟩) 1 1] 30)
  rw [show ((((W1.alloc (.cells #[.string ⟨#[111, 108, 100]⟩, .slice p1 2 q1, .slice p2 1 q2] 34)).alloc (.cells #[.string ⟨#[110, 101, 119]⟩, .slice p3 3 q3, .slice p4 2 q4] 34)).alloc (.cells #[.int .i64 7] 3))).heap.size = W1.heap.size + 1 + 1 + 1 from by simp] at k3
  have k4 := (((((Blk.new ((((W1.alloc (.cells #[.string ⟨#[111, 108, 100]⟩, .slice p1 2 q1, .slice p2 1 q2] 34)).alloc (.cells #[.string ⟨#[110, 101, 119]⟩, .slice p3 3 q3, .slice p4 2 q4] 34)).alloc (.cells #[.int .i64 7] 3)).alloc (.cells #[.string ⟨#[97, 112, 112, 101, 97, 108]⟩, .int .i64 7] 53)) 66 #[.string ⟨#[97, 110, 115, 119, 101, 114]⟩, .int .i64 30, .int .i64 1, .int .i64 7, .slice none 0 0]).alloc (.cells #[.string ⟨#[109, 49]⟩, .int .i64 5, .slice none 0 0, .string ⟨#[111, 108, 100]⟩, .int .i64 1, .slice (some ⟨W1.heap.size + 1 + 1, 0, none⟩) 1 1, .slice (some ⟨W1.heap.size + 1 + 1 + 1, 0, none⟩) 1 1, .slice (some ⟨W1.heap.size + 1 + 1 + 1 + 1, 0, none⟩) 1 1] 27)).alloc (.cells #[.int .i64 0, .int .i64 2] 3)).alloc (.cells #[.string ⟨#[97, 112, 112, 101, 97, 108]⟩, .string ⟨#[114, 101, 118, 105, 101, 119]⟩] 67)).alloc (.cells #[.string ⟨#[97, 110, 115, 119, 101, 114]⟩, .int .i64 1, .int .i64 1, .int .i64 10, .slice none 0 0] 66)).alloc (.cells #[.string ⟨#[111, 108, 100]⟩, .string ⟨#[110, 101, 119]⟩, .slice (some ⟨W1.heap.size + 1 + 1 + 1 + 1 + 1 + 1, 0, none⟩) 2 2, .slice (some ⟨W1.heap.size + 1 + 1 + 1 + 1 + 1 + 1 + 1, 0, none⟩) 1 1, .slice (some ⟨W1.heap.size + 1 + 1 + 1 + 1 + 1 + 1 + 1 + 1, 0, none⟩) 1 1] 30)
  rw [show (((((W1.alloc (.cells #[.string ⟨#[111, 108, 100]⟩, .slice p1 2 q1, .slice p2 1 q2] 34)).alloc (.cells #[.string ⟨#[110, 101, 119]⟩, .slice p3 3 q3, .slice p4 2 q4] 34)).alloc (.cells #[.int .i64 7] 3)).alloc (.cells #[.string ⟨#[97, 112, 112, 101, 97, 108]⟩, .int .i64 7] 53))).heap.size = W1.heap.size + 1 + 1 + 1 + 1 from by simp] at k4
  have k5 := ((((Blk.new (((((W1.alloc (.cells #[.string ⟨#[111, 108, 100]⟩, .slice p1 2 q1, .slice p2 1 q2] 34)).alloc (.cells #[.string ⟨#[110, 101, 119]⟩, .slice p3 3 q3, .slice p4 2 q4] 34)).alloc (.cells #[.int .i64 7] 3)).alloc (.cells #[.string ⟨#[97, 112, 112, 101, 97, 108]⟩, .int .i64 7] 53)).alloc (.cells #[.string ⟨#[97, 110, 115, 119, 101, 114]⟩, .int .i64 30, .int .i64 1, .int .i64 7, .slice none 0 0] 66)) 27 #[.string ⟨#[109, 49]⟩, .int .i64 5, .slice none 0 0, .string ⟨#[111, 108, 100]⟩, .int .i64 1, .slice (some ⟨W1.heap.size + 1 + 1, 0, none⟩) 1 1, .slice (some ⟨W1.heap.size + 1 + 1 + 1, 0, none⟩) 1 1, .slice (some ⟨W1.heap.size + 1 + 1 + 1 + 1, 0, none⟩) 1 1]).alloc (.cells #[.int .i64 0, .int .i64 2] 3)).alloc (.cells #[.string ⟨#[97, 112, 112, 101, 97, 108]⟩, .string ⟨#[114, 101, 118, 105, 101, 119]⟩] 67)).alloc (.cells #[.string ⟨#[97, 110, 115, 119, 101, 114]⟩, .int .i64 1, .int .i64 1, .int .i64 10, .slice none 0 0] 66)).alloc (.cells #[.string ⟨#[111, 108, 100]⟩, .string ⟨#[110, 101, 119]⟩, .slice (some ⟨W1.heap.size + 1 + 1 + 1 + 1 + 1 + 1, 0, none⟩) 2 2, .slice (some ⟨W1.heap.size + 1 + 1 + 1 + 1 + 1 + 1 + 1, 0, none⟩) 1 1, .slice (some ⟨W1.heap.size + 1 + 1 + 1 + 1 + 1 + 1 + 1 + 1, 0, none⟩) 1 1] 30)
  rw [show ((((((W1.alloc (.cells #[.string ⟨#[111, 108, 100]⟩, .slice p1 2 q1, .slice p2 1 q2] 34)).alloc (.cells #[.string ⟨#[110, 101, 119]⟩, .slice p3 3 q3, .slice p4 2 q4] 34)).alloc (.cells #[.int .i64 7] 3)).alloc (.cells #[.string ⟨#[97, 112, 112, 101, 97, 108]⟩, .int .i64 7] 53)).alloc (.cells #[.string ⟨#[97, 110, 115, 119, 101, 114]⟩, .int .i64 30, .int .i64 1, .int .i64 7, .slice none 0 0] 66))).heap.size = W1.heap.size + 1 + 1 + 1 + 1 + 1 from by simp] at k5
  have k6 := (((Blk.new ((((((W1.alloc (.cells #[.string ⟨#[111, 108, 100]⟩, .slice p1 2 q1, .slice p2 1 q2] 34)).alloc (.cells #[.string ⟨#[110, 101, 119]⟩, .slice p3 3 q3, .slice p4 2 q4] 34)).alloc (.cells #[.int .i64 7] 3)).alloc (.cells #[.string ⟨#[97, 112, 112, 101, 97, 108]⟩, .int .i64 7] 53)).alloc (.cells #[.string ⟨#[97, 110, 115, 119, 101, 114]⟩, .int .i64 30, .int .i64 1, .int .i64 7, .slice none 0 0] 66)).alloc (.cells #[.string ⟨#[109, 49]⟩, .int .i64 5, .slice none 0 0, .string ⟨#[111, 108, 100]⟩, .int .i64 1, .slice (some ⟨W1.heap.size + 1 + 1, 0, none⟩) 1 1, .slice (some ⟨W1.heap.size + 1 + 1 + 1, 0, none⟩) 1 1, .slice (some ⟨W1.heap.size + 1 + 1 + 1 + 1, 0, none⟩) 1 1] 27)) 3 #[.int .i64 0, .int .i64 2]).alloc (.cells #[.string ⟨#[97, 112, 112, 101, 97, 108]⟩, .string ⟨#[114, 101, 118, 105, 101, 119]⟩] 67)).alloc (.cells #[.string ⟨#[97, 110, 115, 119, 101, 114]⟩, .int .i64 1, .int .i64 1, .int .i64 10, .slice none 0 0] 66)).alloc (.cells #[.string ⟨#[111, 108, 100]⟩, .string ⟨#[110, 101, 119]⟩, .slice (some ⟨W1.heap.size + 1 + 1 + 1 + 1 + 1 + 1, 0, none⟩) 2 2, .slice (some ⟨W1.heap.size + 1 + 1 + 1 + 1 + 1 + 1 + 1, 0, none⟩) 1 1, .slice (some ⟨W1.heap.size + 1 + 1 + 1 + 1 + 1 + 1 + 1 + 1, 0, none⟩) 1 1] 30)
  rw [show (((((((W1.alloc (.cells #[.string ⟨#[111, 108, 100]⟩, .slice p1 2 q1, .slice p2 1 q2] 34)).alloc (.cells #[.string ⟨#[110, 101, 119]⟩, .slice p3 3 q3, .slice p4 2 q4] 34)).alloc (.cells #[.int .i64 7] 3)).alloc (.cells #[.string ⟨#[97, 112, 112, 101, 97, 108]⟩, .int .i64 7] 53)).alloc (.cells #[.string ⟨#[97, 110, 115, 119, 101, 114]⟩, .int .i64 30, .int .i64 1, .int .i64 7, .slice none 0 0] 66)).alloc (.cells #[.string ⟨#[109, 49]⟩, .int .i64 5, .slice none 0 0, .string ⟨#[111, 108, 100]⟩, .int .i64 1, .slice (some ⟨W1.heap.size + 1 + 1, 0, none⟩) 1 1, .slice (some ⟨W1.heap.size + 1 + 1 + 1, 0, none⟩) 1 1, .slice (some ⟨W1.heap.size + 1 + 1 + 1 + 1, 0, none⟩) 1 1] 27))).heap.size = W1.heap.size + 1 + 1 + 1 + 1 + 1 + 1 from by simp] at k6
  have k7 := ((Blk.new (((((((W1.alloc (.cells #[.string ⟨#[111, 108, 100]⟩, .slice p1 2 q1, .slice p2 1 q2] 34)).alloc (.cells #[.string ⟨#[110, 101, 119]⟩, .slice p3 3 q3, .slice p4 2 q4] 34)).alloc (.cells #[.int .i64 7] 3)).alloc (.cells #[.string ⟨#[97, 112, 112, 101, 97, 108]⟩, .int .i64 7] 53)).alloc (.cells #[.string ⟨#[97, 110, 115, 119, 101, 114]⟩, .int .i64 30, .int .i64 1, .int .i64 7, .slice none 0 0] 66)).alloc (.cells #[.string ⟨#[109, 49]⟩, .int .i64 5, .slice none 0 0, .string ⟨#[111, 108, 100]⟩, .int .i64 1, .slice (some ⟨W1.heap.size + 1 + 1, 0, none⟩) 1 1, .slice (some ⟨W1.heap.size + 1 + 1 + 1, 0, none⟩) 1 1, .slice (some ⟨W1.heap.size + 1 + 1 + 1 + 1, 0, none⟩) 1 1] 27)).alloc (.cells #[.int .i64 0, .int .i64 2] 3)) 67 #[.string ⟨#[97, 112, 112, 101, 97, 108]⟩, .string ⟨#[114, 101, 118, 105, 101, 119]⟩]).alloc (.cells #[.string ⟨#[97, 110, 115, 119, 101, 114]⟩, .int .i64 1, .int .i64 1, .int .i64 10, .slice none 0 0] 66)).alloc (.cells #[.string ⟨#[111, 108, 100]⟩, .string ⟨#[110, 101, 119]⟩, .slice (some ⟨W1.heap.size + 1 + 1 + 1 + 1 + 1 + 1, 0, none⟩) 2 2, .slice (some ⟨W1.heap.size + 1 + 1 + 1 + 1 + 1 + 1 + 1, 0, none⟩) 1 1, .slice (some ⟨W1.heap.size + 1 + 1 + 1 + 1 + 1 + 1 + 1 + 1, 0, none⟩) 1 1] 30)
  rw [show ((((((((W1.alloc (.cells #[.string ⟨#[111, 108, 100]⟩, .slice p1 2 q1, .slice p2 1 q2] 34)).alloc (.cells #[.string ⟨#[110, 101, 119]⟩, .slice p3 3 q3, .slice p4 2 q4] 34)).alloc (.cells #[.int .i64 7] 3)).alloc (.cells #[.string ⟨#[97, 112, 112, 101, 97, 108]⟩, .int .i64 7] 53)).alloc (.cells #[.string ⟨#[97, 110, 115, 119, 101, 114]⟩, .int .i64 30, .int .i64 1, .int .i64 7, .slice none 0 0] 66)).alloc (.cells #[.string ⟨#[109, 49]⟩, .int .i64 5, .slice none 0 0, .string ⟨#[111, 108, 100]⟩, .int .i64 1, .slice (some ⟨W1.heap.size + 1 + 1, 0, none⟩) 1 1, .slice (some ⟨W1.heap.size + 1 + 1 + 1, 0, none⟩) 1 1, .slice (some ⟨W1.heap.size + 1 + 1 + 1 + 1, 0, none⟩) 1 1] 27)).alloc (.cells #[.int .i64 0, .int .i64 2] 3))).heap.size = W1.heap.size + 1 + 1 + 1 + 1 + 1 + 1 + 1 from by simp] at k7
  have k8 := (Blk.new ((((((((W1.alloc (.cells #[.string ⟨#[111, 108, 100]⟩, .slice p1 2 q1, .slice p2 1 q2] 34)).alloc (.cells #[.string ⟨#[110, 101, 119]⟩, .slice p3 3 q3, .slice p4 2 q4] 34)).alloc (.cells #[.int .i64 7] 3)).alloc (.cells #[.string ⟨#[97, 112, 112, 101, 97, 108]⟩, .int .i64 7] 53)).alloc (.cells #[.string ⟨#[97, 110, 115, 119, 101, 114]⟩, .int .i64 30, .int .i64 1, .int .i64 7, .slice none 0 0] 66)).alloc (.cells #[.string ⟨#[109, 49]⟩, .int .i64 5, .slice none 0 0, .string ⟨#[111, 108, 100]⟩, .int .i64 1, .slice (some ⟨W1.heap.size + 1 + 1, 0, none⟩) 1 1, .slice (some ⟨W1.heap.size + 1 + 1 + 1, 0, none⟩) 1 1, .slice (some ⟨W1.heap.size + 1 + 1 + 1 + 1, 0, none⟩) 1 1] 27)).alloc (.cells #[.int .i64 0, .int .i64 2] 3)).alloc (.cells #[.string ⟨#[97, 112, 112, 101, 97, 108]⟩, .string ⟨#[114, 101, 118, 105, 101, 119]⟩] 67)) 66 #[.string ⟨#[97, 110, 115, 119, 101, 114]⟩, .int .i64 1, .int .i64 1, .int .i64 10, .slice none 0 0]).alloc (.cells #[.string ⟨#[111, 108, 100]⟩, .string ⟨#[110, 101, 119]⟩, .slice (some ⟨W1.heap.size + 1 + 1 + 1 + 1 + 1 + 1, 0, none⟩) 2 2, .slice (some ⟨W1.heap.size + 1 + 1 + 1 + 1 + 1 + 1 + 1, 0, none⟩) 1 1, .slice (some ⟨W1.heap.size + 1 + 1 + 1 + 1 + 1 + 1 + 1 + 1, 0, none⟩) 1 1] 30)
  rw [show (((((((((W1.alloc (.cells #[.string ⟨#[111, 108, 100]⟩, .slice p1 2 q1, .slice p2 1 q2] 34)).alloc (.cells #[.string ⟨#[110, 101, 119]⟩, .slice p3 3 q3, .slice p4 2 q4] 34)).alloc (.cells #[.int .i64 7] 3)).alloc (.cells #[.string ⟨#[97, 112, 112, 101, 97, 108]⟩, .int .i64 7] 53)).alloc (.cells #[.string ⟨#[97, 110, 115, 119, 101, 114]⟩, .int .i64 30, .int .i64 1, .int .i64 7, .slice none 0 0] 66)).alloc (.cells #[.string ⟨#[109, 49]⟩, .int .i64 5, .slice none 0 0, .string ⟨#[111, 108, 100]⟩, .int .i64 1, .slice (some ⟨W1.heap.size + 1 + 1, 0, none⟩) 1 1, .slice (some ⟨W1.heap.size + 1 + 1 + 1, 0, none⟩) 1 1, .slice (some ⟨W1.heap.size + 1 + 1 + 1 + 1, 0, none⟩) 1 1] 27)).alloc (.cells #[.int .i64 0, .int .i64 2] 3)).alloc (.cells #[.string ⟨#[97, 112, 112, 101, 97, 108]⟩, .string ⟨#[114, 101, 118, 105, 101, 119]⟩] 67))).heap.size = W1.heap.size + 1 + 1 + 1 + 1 + 1 + 1 + 1 + 1 from by simp] at k8
  have k9 := Blk.new (((((((((W1.alloc (.cells #[.string ⟨#[111, 108, 100]⟩, .slice p1 2 q1, .slice p2 1 q2] 34)).alloc (.cells #[.string ⟨#[110, 101, 119]⟩, .slice p3 3 q3, .slice p4 2 q4] 34)).alloc (.cells #[.int .i64 7] 3)).alloc (.cells #[.string ⟨#[97, 112, 112, 101, 97, 108]⟩, .int .i64 7] 53)).alloc (.cells #[.string ⟨#[97, 110, 115, 119, 101, 114]⟩, .int .i64 30, .int .i64 1, .int .i64 7, .slice none 0 0] 66)).alloc (.cells #[.string ⟨#[109, 49]⟩, .int .i64 5, .slice none 0 0, .string ⟨#[111, 108, 100]⟩, .int .i64 1, .slice (some ⟨W1.heap.size + 1 + 1, 0, none⟩) 1 1, .slice (some ⟨W1.heap.size + 1 + 1 + 1, 0, none⟩) 1 1, .slice (some ⟨W1.heap.size + 1 + 1 + 1 + 1, 0, none⟩) 1 1] 27)).alloc (.cells #[.int .i64 0, .int .i64 2] 3)).alloc (.cells #[.string ⟨#[97, 112, 112, 101, 97, 108]⟩, .string ⟨#[114, 101, 118, 105, 101, 119]⟩] 67)).alloc (.cells #[.string ⟨#[97, 110, 115, 119, 101, 114]⟩, .int .i64 1, .int .i64 1, .int .i64 10, .slice none 0 0] 66)) 30 #[.string ⟨#[111, 108, 100]⟩, .string ⟨#[110, 101, 119]⟩, .slice (some ⟨W1.heap.size + 1 + 1 + 1 + 1 + 1 + 1, 0, none⟩) 2 2, .slice (some ⟨W1.heap.size + 1 + 1 + 1 + 1 + 1 + 1 + 1, 0, none⟩) 1 1, .slice (some ⟨W1.heap.size + 1 + 1 + 1 + 1 + 1 + 1 + 1 + 1, 0, none⟩) 1 1]
  rw [show ((((((((((W1.alloc (.cells #[.string ⟨#[111, 108, 100]⟩, .slice p1 2 q1, .slice p2 1 q2] 34)).alloc (.cells #[.string ⟨#[110, 101, 119]⟩, .slice p3 3 q3, .slice p4 2 q4] 34)).alloc (.cells #[.int .i64 7] 3)).alloc (.cells #[.string ⟨#[97, 112, 112, 101, 97, 108]⟩, .int .i64 7] 53)).alloc (.cells #[.string ⟨#[97, 110, 115, 119, 101, 114]⟩, .int .i64 30, .int .i64 1, .int .i64 7, .slice none 0 0] 66)).alloc (.cells #[.string ⟨#[109, 49]⟩, .int .i64 5, .slice none 0 0, .string ⟨#[111, 108, 100]⟩, .int .i64 1, .slice (some ⟨W1.heap.size + 1 + 1, 0, none⟩) 1 1, .slice (some ⟨W1.heap.size + 1 + 1 + 1, 0, none⟩) 1 1, .slice (some ⟨W1.heap.size + 1 + 1 + 1 + 1, 0, none⟩) 1 1] 27)).alloc (.cells #[.int .i64 0, .int .i64 2] 3)).alloc (.cells #[.string ⟨#[97, 112, 112, 101, 97, 108]⟩, .string ⟨#[114, 101, 118, 105, 101, 119]⟩] 67)).alloc (.cells #[.string ⟨#[97, 110, 115, 119, 101, 114]⟩, .int .i64 1, .int .i64 1, .int .i64 10, .slice none 0 0] 66))).heap.size = W1.heap.size + 1 + 1 + 1 + 1 + 1 + 1 + 1 + 1 + 1 from by simp] at k9
  generalize ((((((((((W1.alloc (.cells #[.string ⟨#[111, 108, 100]⟩, .slice p1 2 q1, .slice p2 1 q2] 34)).alloc (.cells #[.string ⟨#[110, 101, 119]⟩, .slice p3 3 q3, .slice p4 2 q4] 34)).alloc (.cells #[.int .i64 7] 3)).alloc (.cells #[.string ⟨#[97, 112, 112, 101, 97, 108]⟩, .int .i64 7] 53)).alloc (.cells #[.string ⟨#[97, 110, 115, 119, 101, 114]⟩, .int .i64 30, .int .i64 1, .int .i64 7, .slice none 0 0] 66)).alloc (.cells #[.string ⟨#[109, 49]⟩, .int .i64 5, .slice none 0 0, .string ⟨#[111, 108, 100]⟩, .int .i64 1, .slice (some ⟨W1.heap.size + 1 + 1, 0, none⟩) 1 1, .slice (some ⟨W1.heap.size + 1 + 1 + 1, 0, none⟩) 1 1, .slice (some ⟨W1.heap.size + 1 + 1 + 1 + 1, 0, none⟩) 1 1] 27)).alloc (.cells #[.int .i64 0, .int .i64 2] 3)).alloc (.cells #[.string ⟨#[97, 112, 112, 101, 97, 108]⟩, .string ⟨#[114, 101, 118, 105, 101, 119]⟩] 67)).alloc (.cells #[.string ⟨#[97, 110, 115, 119, 101, 114]⟩, .int .i64 1, .int .i64 1, .int .i64 10, .slice none 0 0] 66)).alloc (.cells #[.string ⟨#[111, 108, 100]⟩, .string ⟨#[110, 101, 119]⟩, .slice (some ⟨W1.heap.size + 1 + 1 + 1 + 1 + 1 + 1, 0, none⟩) 2 2, .slice (some ⟨W1.heap.size + 1 + 1 + 1 + 1 + 1 + 1 + 1, 0, none⟩) 1 1, .slice (some ⟨W1.heap.size + 1 + 1 + 1 + 1 + 1 + 1 + 1 + 1, 0, none⟩) 1 1] 30)) = W0 at *
  have hP0 := (hP.below hb).wide hb.size
  have hQ0 := (hQ.below hb).wide hb.size
  have hb0 := b1.trans (hb.mono b1.size)
  have ha := b1.size
  generalize W1.heap.size = a at *
  clear hP hQ hb b1
  have hlm : ∀ (b : Nat) (n f : Int), Blk W0 b 66 #[.string anS, .int .i64 n, .int .i64 1, .int .i64 f, .slice none 0 0] → LmsAt W0 W0.heap.size (some ⟨b, 0, none⟩) [(⟨anS, n, 1, f, []⟩, none, 0)] := by
    intro b n f hk i v hi
    match i, hi with
    | 0, hi =>
      simp only [List.getElem?_cons_zero, Option.some.injEq] at hi
      subst hi
      exact ⟨b, 0, rfl, hk.lt, by rw [hk.cell]; rfl, by rw [hk.cell]; rfl, by rw [hk.cell]; rfl, by rw [hk.cell]; rfl, by rw [hk.cell]; rfl, fun i v hi => by simp at hi, (by show anS.size ≤ _; decide), (by simp)⟩
    | i + 1, hi => simp at hi
  have hM : MtAt W0 W0.heap.size tpM ⟨none, 0, some ⟨a + 1 + 1, 0, none⟩, 1, some ⟨a + 1 + 1 + 1, 0, none⟩, 1, some ⟨a + 1 + 1 + 1 + 1, 0, none⟩, 1, [(⟨anS, 30, 1, 7, []⟩, none, 0)]⟩ := by
    refine ⟨fun i v hi => by simp [tpM] at hi, fun i v hi => ⟨a + 1 + 1, 0, rfl, k2.lt, ?_⟩, fun i v hi => ⟨a + 1 + 1 + 1, 0, rfl, k3.lt, ?_, ?_⟩, hlm _ _ _ k4, rfl, by decide, by decide, ?_⟩
    · rw [k2.cell]
      match i, hi with
      | 0, hi => simp [tpM] at hi; subst hi; rfl
      | i + 1, hi => simp [tpM] at hi
    · rw [k3.cell]
      match i, hi with
      | 0, hi => simp [tpM] at hi; subst hi; rfl
      | i + 1, hi => simp [tpM] at hi
    · rw [k3.cell]
      match i, hi with
      | 0, hi => simp [tpM] at hi; subst hi; rfl
      | i + 1, hi => simp [tpM] at hi
    · intro r hr
      simp only [tpM, List.mem_cons, List.not_mem_nil, or_false] at hr
      subst hr
      decide
  have hG : MgAt W0 W0.heap.size tpG ⟨some ⟨a + 1 + 1 + 1 + 1 + 1 + 1, 0, none⟩, 2, some ⟨a + 1 + 1 + 1 + 1 + 1 + 1 + 1, 0, none⟩, 1, some ⟨a + 1 + 1 + 1 + 1 + 1 + 1 + 1 + 1, 0, none⟩, 1, [(⟨anS, 1, 1, 10, []⟩, none, 0)]⟩ := by
    refine ⟨fun i v hi => ⟨a + 1 + 1 + 1 + 1 + 1 + 1, 0, rfl, k6.lt, ?_⟩, fun i v hi => ⟨a + 1 + 1 + 1 + 1 + 1 + 1 + 1, 0, rfl, k7.lt, ?_, ?_⟩, hlm _ _ _ k8, rfl, (by decide), (by decide), ?_⟩
    · rw [k6.cell]
      match i, hi with
      | 0, hi => simp [tpG] at hi; subst hi; rfl
      | 1, hi => simp [tpG] at hi; subst hi; rfl
      | i + 2, hi => simp [tpG] at hi
    · rw [k7.cell]
      match i, hi with
      | 0, hi => simp [tpG] at hi; subst hi; rfl
      | i + 1, hi => simp [tpG] at hi
    · rw [k7.cell]
      match i, hi with
      | 0, hi => simp [tpG] at hi; subst hi; rfl
      | i + 1, hi => simp [tpG] at hi
    · intro r hr
      simp only [tpG, List.mem_cons, List.not_mem_nil, or_false] at hr
      subst hr
      decide
  have sM : Sml tpM := by unfold Sml; decide
  have sG : SmlG tpG := by unfold SmlG; decide
  have sP : SmlP tpP := by unfold SmlP; decide
  have sQ : SmlP tpQ := by unfold SmlP; decide
  have c1 : Calls Tryz.prog 11 #[.agg #[.string ⟨#[109, 49]⟩, .int .i64 5, .slice none 0 0, .string ⟨#[111, 108, 100]⟩, .int .i64 1, .slice (some ⟨a + 1 + 1, 0, none⟩) 1 1, .slice (some ⟨a + 1 + 1 + 1, 0, none⟩) 1 1, .slice (some ⟨a + 1 + 1 + 1 + 1, 0, none⟩) 1 1], .agg #[.string ⟨#[111, 108, 100]⟩, .string ⟨#[110, 101, 119]⟩, .slice (some ⟨a + 1 + 1 + 1 + 1 + 1 + 1, 0, none⟩) 2 2, .slice (some ⟨a + 1 + 1 + 1 + 1 + 1 + 1 + 1, 0, none⟩) 1 1, .slice (some ⟨a + 1 + 1 + 1 + 1 + 1 + 1 + 1 + 1, 0, none⟩) 1 1], .agg #[.string ⟨#[111, 108, 100]⟩, .slice p1 2 q1, .slice p2 1 q2], .agg #[.string ⟨#[110, 101, 119]⟩, .slice p3 3 q3, .slice p4 2 q4], .int .i64 20, .slice none 0 0] W0 (MtPostO W0 tpM ⟨none, 0, some ⟨a + 1 + 1, 0, none⟩, 1, some ⟨a + 1 + 1 + 1, 0, none⟩, 1, some ⟨a + 1 + 1 + 1 + 1, 0, none⟩, 1, [(⟨anS, 30, 1, 7, []⟩, none, 0)]⟩ 0 tpA) := by
    have k := gapply_any W0 (HT.out.below hb0) W0.heap.size tpM _ hM (Nat.le_refl _) sM tpG _ hG sG tpP _ hP0 sP tpQ _ hQ0 sQ 20 none [] 0 (fun i v hi => by simp at hi) (by decide) (by simp)
    rw [tp_ap.1, tp_ap.2] at k
    exact k
  have C1 := Lib.hid c1
  have HB0 := Lib.hid hb0
  obtain ⟨s0, s1, s2⟩ := k0.all
  obtain ⟨t0, t1, t2⟩ := k1.all
  obtain ⟨v0, v1, v2⟩ := k5.all
  obtain ⟨u0, u1, u2⟩ := k9.all
  clear c1 hb0 k0 k1 k2 k3 k4 k5 k6 k7 k8 k9 hM hlm hG sM sG sP sQ hP0 hQ0 HT hsz
  go_wp2_with fail
  refine C1.out.mono ?_
  rintro e W2 ⟨⟨x1, y1, x2, y2, x3, y3, x4, y4, lw⟩, he, ⟨hma, -⟩, b2⟩
  obtain rfl : e = .returned (.tuple #[.agg #[.string ⟨#[109, 49]⟩, .int .i64 5, .slice x1 0 y1, .string ⟨#[110, 101, 119]⟩, .int .i64 2, .slice x2 1 y2, .slice x3 1 y3, .slice x4 1 y4], .int .i64 0]) := he
  obtain ⟨LA, lc, rfl⟩ : ∃ LA lc, lw = [(⟨anS, 10, 1, 20, []⟩, LA, lc)] := by
    have h9 : lw.map (·.1) = [⟨anS, 10, 1, 20, []⟩] := hma.lv
    match lw, h9 with
    | [(L, a, c)], h9 =>
      simp only [List.map_cons, List.map_nil, List.cons.injEq, and_true] at h9
      subst h9
      exact ⟨a, c, rfl⟩
  obtain ⟨g4, o4, hA4, hg4, rc0, rc1, rc2, rc3, rc4, hlm⟩ := hma.ls 0 _ rfl
  have hA4 : x4 = some ⟨g4, o4, none⟩ := hA4
  subst hA4
  clear C1 s0 s1 s2 t0 t1 t2 u0 u1 u2 v0 v1 v2
  go_upto_region 5 with fail
  have qz := below_self_alloc W2 (.cells #[.string ⟨#[109, 49]⟩, .int .i64 5, .slice x1 0 y1, .string ⟨#[110, 101, 119]⟩, .int .i64 2, .slice x2 1 y2, .slice x3 1 y3, .slice (some ⟨g4, o4, none⟩) 1 y4] 27)
  have kt := Blk.new W2 27 #[.string ⟨#[109, 49]⟩, .int .i64 5, .slice x1 0 y1, .string ⟨#[110, 101, 119]⟩, .int .i64 2, .slice x2 1 y2, .slice x3 1 y3, .slice (some ⟨g4, o4, none⟩) 1 y4]
  have HB1 := Lib.hid (HB0.out.trans ((b2.trans (qz.mono b2.size)).mono HB0.out.size))
  have HMA := Lib.hid ((hma.rs.below qz).wide qz.size)
  have HLM := Lib.hid ((hlm.below qz).wide qz.size)
  have p0 := (qz.cell (p := ⟨g4, o4 + 0 * 5, none⟩) hg4).trans rc0
  have p1 := (qz.cell (p := ⟨g4, o4 + 0 * 5 + 1, none⟩) hg4).trans rc1
  have p2 := (qz.cell (p := ⟨g4, o4 + 0 * 5 + 2, none⟩) hg4).trans rc2
  have p3 := (qz.cell (p := ⟨g4, o4 + 0 * 5 + 3, none⟩) hg4).trans rc3
  have p4 := (qz.cell (p := ⟨g4, o4 + 0 * 5 + 4, none⟩) hg4).trans rc4
  simp only [Nat.zero_mul, Nat.add_zero] at p0 p1 p2 p3 p4
  clear hma hlm rc0 rc1 rc2 rc3 rc4 qz b2 HB0
  generalize W2.alloc (.cells #[.string ⟨#[109, 49]⟩, .int .i64 5, .slice x1 0 y1, .string ⟨#[110, 101, 119]⟩, .int .i64 2, .slice x2 1 y2, .slice x3 1 y3, .slice (some ⟨g4, o4, none⟩) 1 y4] 27) = X at *
  have p0 : X.cell? ⟨g4, o4, none⟩ = some (.string ⟨#[97, 110, 115, 119, 101, 114]⟩) := p0
  have p1 : X.cell? ⟨g4, o4 + 1, none⟩ = some (.int .i64 10) := p1
  have p2 : X.cell? ⟨g4, o4 + 2, none⟩ = some (.int .i64 1) := p2
  have p3 : X.cell? ⟨g4, o4 + 3, none⟩ = some (.int .i64 20) := p3
  have p4 : X.cell? ⟨g4, o4 + 4, none⟩ = some (.slice LA 0 lc) := p4
  have hdu : Calls Tryz.prog 19 #[.agg #[.string ⟨#[97, 110, 115, 119, 101, 114]⟩, .int .i64 10, .int .i64 1, .int .i64 20, .slice LA 0 lc], .slice none 0 0] X fun e w' => e = .returned (.tuple #[.int .i64 30, .int .i64 0]) ∧ Below X.heap.size X w' := by
    have k := due_any X ⟨anS, 10, 1, 20, []⟩ X.heap.size LA lc HLM.out (Nat.le_refl _) none [] 0 (fun i v hi => by simp at hi) (by decide) (by simp)
    rw [tp_d3] at k
    exact k
  have HDU := Lib.hid hdu
  have KT := Lib.hid kt
  obtain ⟨t0, t1, t2⟩ := kt.all
  clear hdu kt HLM
  go_wp2_with fail
  refine HDU.out.mono ?_
  rintro e W4 ⟨rfl, b4⟩
  clear t0 t1 t2 p0 p1 p2 p3 p4 HDU
  have hh : ∀ V, Below X.heap.size X V → ∀ n day, Calls Tryz.prog 17 #[.agg #[.string ⟨#[109, 49]⟩, .int .i64 5, .slice x1 0 y1, .string ⟨#[110, 101, 119]⟩, .int .i64 2, .slice x2 1 y2, .slice x3 1 y3, .slice (some ⟨g4, o4, none⟩) 1 y4], .string n, .int .i64 day] V fun e w' => e = .returned (.bool (hasB tpA.rs n day)) ∧ Below V.heap.size V w' := fun V hV n day => has_any V X.heap.size tpA ⟨x1, y1, x2, y2, x3, y3, some ⟨g4, o4, none⟩, y4, [(⟨anS, 10, 1, 20, []⟩, LA, lc)]⟩ (HMA.out.below hV) hV.size (by decide) n day
  have HH := Lib.hid hh
  replace KT := Lib.hid (KT.out.below b4 KT.out.lt)
  have B4 := Lib.hid b4
  obtain ⟨t0, t1, t2⟩ := KT.out.all
  clear hh b4
  have h1 := HH.out W4 B4.out rvS 7
  rw [tp_h1] at h1
  go_wp2_with fail
  refine h1.mono ?_
  rintro e W5 ⟨rfl, b5⟩
  clear h1 t0 t1 t2
  replace KT := Lib.hid (KT.out.below b5 KT.out.lt)
  replace B4 := Lib.hid (B4.out.trans (b5.mono B4.out.size))
  have h1 := HH.out W5 B4.out apS 100
  rw [tp_h2] at h1
  obtain ⟨t0, t1, t2⟩ := KT.out.all
  clear b5
  go_wp2_with fail
  refine h1.mono ?_
  rintro e W6 ⟨rfl, b6⟩
  have HE := Lib.hid (HB1.out.trans ((B4.out.trans (b6.mono B4.out.size)).mono HB1.out.size))
  clear h1 t0 t1 t2 b6
  go_wp2
  go_ret
  exact ⟨rfl, HE.out⟩
end Go.Proofs.YtebdkmlganalaaaGreatDoor
