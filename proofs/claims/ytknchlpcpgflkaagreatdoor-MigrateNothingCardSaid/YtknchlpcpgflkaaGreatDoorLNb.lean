/- The procedures of the chapter's examples. -/
import Derived.Test.YtknchlpcpgflkaaGreatDoorLGAU
import Derived.Test.YtknchlpcpgflkaaGreatDoorLGAV
namespace Go.Proofs.YtknchlpcpgflkaaGreatDoor
open Go.RowKit Go.Shelf

def filedS : ByteArray := ⟨#[102, 105, 108, 101, 100]⟩
def heardS : ByteArray := ⟨#[104, 101, 97, 114, 100]⟩
def decidedS : ByteArray := ⟨#[100, 101, 99, 105, 100, 101, 100]⟩
def triedS : ByteArray := ⟨#[116, 114, 105, 101, 100]⟩
def oldS : ByteArray := ⟨#[111, 108, 100]⟩
def nextS : ByteArray := ⟨#[110, 101, 120, 116]⟩
def exP : Pc := ⟨oldS, [filedS, heardS, decidedS], [(0, 1), (1, 2)]⟩
def exQ : Pc := ⟨nextS, [filedS, triedS, heardS, decidedS], [(0, 1), (1, 2), (2, 3)]⟩
set_option maxRecDepth 100000 in
set_option maxHeartbeats 4000000 in
theorem procedures_any (w : World) : Calls Tryz.prog 32 #[] w fun e w' => ∃ y z, e = .returned (.tuple #[.agg (pcC exP y), .agg (pcC exQ z)]) ∧ PcAt w' w'.heap.size exP y ∧ PcAt w' w'.heap.size exQ z ∧ Below w.heap.size w w' := by
  have hb := (((((((below_self_alloc w (.cells #[.string ⟨#[]⟩, .slice none 0 0, .slice none 0 0] 34)).alloc (by simp) (.cells #[.string ⟨#[]⟩, .slice none 0 0, .slice none 0 0] 34)).alloc (by simp; omega) (.cells #[.string ⟨#[102, 105, 108, 101, 100]⟩, .string ⟨#[104, 101, 97, 114, 100]⟩, .string ⟨#[100, 101, 99, 105, 100, 101, 100]⟩] 9)).alloc (by simp; omega) (.cells #[.int .i64 0, .int .i64 1, .int .i64 1, .int .i64 2] 76)).alloc (by simp; omega) (.cells #[.string ⟨#[111, 108, 100]⟩, .slice (some ⟨w.heap.size + 1 + 1, 0, none⟩) 3 3, .slice (some ⟨w.heap.size + 1 + 1 + 1, 0, none⟩) 2 2] 34)).alloc (by simp; omega) (.cells #[.string ⟨#[102, 105, 108, 101, 100]⟩, .string ⟨#[116, 114, 105, 101, 100]⟩, .string ⟨#[104, 101, 97, 114, 100]⟩, .string ⟨#[100, 101, 99, 105, 100, 101, 100]⟩] 9)).alloc (by simp; omega) (.cells #[.int .i64 0, .int .i64 1, .int .i64 1, .int .i64 2, .int .i64 2, .int .i64 3] 76)).alloc (by simp; omega) (.cells #[.string ⟨#[110, 101, 120, 116]⟩, .slice (some ⟨w.heap.size + 1 + 1 + 1 + 1 + 1, 0, none⟩) 4 4, .slice (some ⟨w.heap.size + 1 + 1 + 1 + 1 + 1 + 1, 0, none⟩) 3 3] 34)
  have k0 := (((((((Blk.new w 34 #[.string ⟨#[]⟩, .slice none 0 0, .slice none 0 0]).alloc (.cells #[.string ⟨#[]⟩, .slice none 0 0, .slice none 0 0] 34)).alloc (.cells #[.string ⟨#[102, 105, 108, 101, 100]⟩, .string ⟨#[104, 101, 97, 114, 100]⟩, .string ⟨#[100, 101, 99, 105, 100, 101, 100]⟩] 9)).alloc (.cells #[.int .i64 0, .int .i64 1, .int .i64 1, .int .i64 2] 76)).alloc (.cells #[.string ⟨#[111, 108, 100]⟩, .slice (some ⟨w.heap.size + 1 + 1, 0, none⟩) 3 3, .slice (some ⟨w.heap.size + 1 + 1 + 1, 0, none⟩) 2 2] 34)).alloc (.cells #[.string ⟨#[102, 105, 108, 101, 100]⟩, .string ⟨#[116, 114, 105, 101, 100]⟩, .string ⟨#[104, 101, 97, 114, 100]⟩, .string ⟨#[100, 101, 99, 105, 100, 101, 100]⟩] 9)).alloc (.cells #[.int .i64 0, .int .i64 1, .int .i64 1, .int .i64 2, .int .i64 2, .int .i64 3] 76)).alloc (.cells #[.string ⟨#[110, 101, 120, 116]⟩, .slice (some ⟨w.heap.size + 1 + 1 + 1 + 1 + 1, 0, none⟩) 4 4, .slice (some ⟨w.heap.size + 1 + 1 + 1 + 1 + 1 + 1, 0, none⟩) 3 3] 34)
  have k1 := ((((((Blk.new (w.alloc (.cells #[.string ⟨#[]⟩, .slice none 0 0, .slice none 0 0] 34)) 34 #[.string ⟨#[]⟩, .slice none 0 0, .slice none 0 0]).alloc (.cells #[.string ⟨#[102, 105, 108, 101, 100]⟩, .string ⟨#[104, 101, 97, 114, 100]⟩, .string ⟨#[100, 101, 99, 105, 100, 101, 100]⟩] 9)).alloc (.cells #[.int .i64 0, .int .i64 1, .int .i64 1, .int .i64 2] 76)).alloc (.cells #[.string ⟨#[111, 108, 100]⟩, .slice (some ⟨w.heap.size + 1 + 1, 0, none⟩) 3 3, .slice (some ⟨w.heap.size + 1 + 1 + 1, 0, none⟩) 2 2] 34)).alloc (.cells #[.string ⟨#[102, 105, 108, 101, 100]⟩, .string ⟨#[116, 114, 105, 101, 100]⟩, .string ⟨#[104, 101, 97, 114, 100]⟩, .string ⟨#[100, 101, 99, 105, 100, 101, 100]⟩] 9)).alloc (.cells #[.int .i64 0, .int .i64 1, .int .i64 1, .int .i64 2, .int .i64 2, .int .i64 3] 76)).alloc (.cells #[.string ⟨#[110, 101, 120, 116]⟩, .slice (some ⟨w.heap.size + 1 + 1 + 1 + 1 + 1, 0, none⟩) 4 4, .slice (some ⟨w.heap.size + 1 + 1 + 1 + 1 + 1 + 1, 0, none⟩) 3 3] 34)
  rw [show ((w.alloc (.cells #[.string ⟨#[]⟩, .slice none 0 0, .slice none 0 0] 34))).heap.size = w.heap.size + 1 from by simp] at k1
  have k2 := (((((Blk.new ((w.alloc (.cells #[.string ⟨#[]⟩, .slice none 0 0, .slice none 0 0] 34)).alloc (.cells #[.string ⟨#[]⟩, .slice none 0 0, .slice none 0 0] 34)) 9 #[.string ⟨#[102, 105, 108, 101, 100]⟩, .string ⟨#[104, 101, 97, 114, 100]⟩, .string ⟨#[100, 101, 99, 105, 100, 101, 100]⟩]).alloc (.cells #[.int .i64 0, .int .i64 1, .int .i64 1, .int .i64 2] 76)).alloc (.cells #[.string ⟨#[111, 108, 100]⟩, .slice (some ⟨w.heap.size + 1 + 1, 0, none⟩) 3 3, .slice (some ⟨w.heap.size + 1 + 1 + 1, 0, none⟩) 2 2] 34)).alloc (.cells #[.string ⟨#[102, 105, 108, 101, 100]⟩, .string ⟨#[116, 114, 105, 101, 100]⟩, .string ⟨#[104, 101, 97, 114, 100]⟩, .string ⟨#[100, 101, 99, 105, 100, 101, 100]⟩] 9)).alloc (.cells #[.int .i64 0, .int .i64 1, .int .i64 1, .int .i64 2, .int .i64 2, .int .i64 3] 76)).alloc (.cells #[.string ⟨#[110, 101, 120, 116]⟩, .slice (some ⟨w.heap.size + 1 + 1 + 1 + 1 + 1, 0, none⟩) 4 4, .slice (some ⟨w.heap.size + 1 + 1 + 1 + 1 + 1 + 1, 0, none⟩) 3 3] 34)
  rw [show (((w.alloc (.cells #[.string ⟨#[]⟩, .slice none 0 0, .slice none 0 0] 34)).alloc (.cells #[.string ⟨#[]⟩, .slice none 0 0, .slice none 0 0] 34))).heap.size = w.heap.size + 1 + 1 from by simp] at k2
  have k3 := ((((Blk.new (((w.alloc (.cells #[.string ⟨#[]⟩, .slice none 0 0, .slice none 0 0] 34)).alloc (.cells #[.string ⟨#[]⟩, .slice none 0 0, .slice none 0 0] 34)).alloc (.cells #[.string ⟨#[102, 105, 108, 101, 100]⟩, .string ⟨#[104, 101, 97, 114, 100]⟩, .string ⟨#[100, 101, 99, 105, 100, 101, 100]⟩] 9)) 76 #[.int .i64 0, .int .i64 1, .int .i64 1, .int .i64 2]).alloc (.cells #[.string ⟨#[111, 108, 100]⟩, .slice (some ⟨w.heap.size + 1 + 1, 0, none⟩) 3 3, .slice (some ⟨w.heap.size + 1 + 1 + 1, 0, none⟩) 2 2] 34)).alloc (.cells #[.string ⟨#[102, 105, 108, 101, 100]⟩, .string ⟨#[116, 114, 105, 101, 100]⟩, .string ⟨#[104, 101, 97, 114, 100]⟩, .string ⟨#[100, 101, 99, 105, 100, 101, 100]⟩] 9)).alloc (.cells #[.int .i64 0, .int .i64 1, .int .i64 1, .int .i64 2, .int .i64 2, .int .i64 3] 76)).alloc (.cells #[.string ⟨#[110, 101, 120, 116]⟩, .slice (some ⟨w.heap.size + 1 + 1 + 1 + 1 + 1, 0, none⟩) 4 4, .slice (some ⟨w.heap.size + 1 + 1 + 1 + 1 + 1 + 1, 0, none⟩) 3 3] 34)
  rw [show ((((w.alloc (.cells #[.string ⟨#[]⟩, .slice none 0 0, .slice none 0 0] 34)).alloc (.cells #[.string ⟨#[]⟩, .slice none 0 0, .slice none 0 0] 34)).alloc (.cells #[.string ⟨#[102, 105, 108, 101, 100]⟩, .string ⟨#[104, 101, 97, 114, 100]⟩, .string ⟨#[100, 101, 99, 105, 100, 101, 100]⟩] 9))).heap.size = w.heap.size + 1 + 1 + 1 from by simp] at k3
  have k4 := (((Blk.new ((((w.alloc (.cells #[.string ⟨#[]⟩, .slice none 0 0, .slice none 0 0] 34)).alloc (.cells #[.string ⟨#[]⟩, .slice none 0 0, .slice none 0 0] 34)).alloc (.cells #[.string ⟨#[102, 105, 108, 101, 100]⟩, .string ⟨#[104, 101, 97, 114, 100]⟩, .string ⟨#[100, 101, 99, 105, 100, 101, 100]⟩] 9)).alloc (.cells #[.int .i64 0, .int .i64 1, .int .i64 1, .int .i64 2] 76)) 34 #[.string ⟨#[111, 108, 100]⟩, .slice (some ⟨w.heap.size + 1 + 1, 0, none⟩) 3 3, .slice (some ⟨w.heap.size + 1 + 1 + 1, 0, none⟩) 2 2]).alloc (.cells #[.string ⟨#[102, 105, 108, 101, 100]⟩, .string ⟨#[116, 114, 105, 101, 100]⟩, .string ⟨#[104, 101, 97, 114, 100]⟩, .string ⟨#[100, 101, 99, 105, 100, 101, 100]⟩] 9)).alloc (.cells #[.int .i64 0, .int .i64 1, .int .i64 1, .int .i64 2, .int .i64 2, .int .i64 3] 76)).alloc (.cells #[.string ⟨#[110, 101, 120, 116]⟩, .slice (some ⟨w.heap.size + 1 + 1 + 1 + 1 + 1, 0, none⟩) 4 4, .slice (some ⟨w.heap.size + 1 + 1 + 1 + 1 + 1 + 1, 0, none⟩) 3 3] 34)
  rw [show (((((w.alloc (.cells #[.string ⟨#[]⟩, .slice none 0 0, .slice none 0 0] 34)).alloc (.cells #[.string ⟨#[]⟩, .slice none 0 0, .slice none 0 0] 34)).alloc (.cells #[.string ⟨#[102, 105, 108, 101, 100]⟩, .string ⟨#[104, 101, 97, 114, 100]⟩, .string ⟨#[100, 101, 99, 105, 100, 101, 100]⟩] 9)).alloc (.cells #[.int .i64 0, .int .i64 1, .int .i64 1, .int .i64 2] 76))).heap.size = w.heap.size + 1 + 1 + 1 + 1 from by simp] at k4
  have k5 := ((Blk.new (((((w.alloc (.cells #[.string ⟨#[]⟩, .slice none 0 0, .slice none 0 0] 34)).alloc (.cells #[.string ⟨#[]⟩, .slice none 0 0, .slice none 0 0] 34)).alloc (.cells #[.string ⟨#[102, 105, 108, 101, 100]⟩, .string ⟨#[104, 101, 97, 114, 100]⟩, .string ⟨#[100, 101, 99, 105, 100, 101, 100]⟩] 9)).alloc (.cells #[.int .i64 0, .int .i64 1, .int .i64 1, .int .i64 2] 76)).alloc (.cells #[.string ⟨#[111, 108, 100]⟩, .slice (some ⟨w.heap.size + 1 + 1, 0, none⟩) 3 3, .slice (some ⟨w.heap.size + 1 + 1 + 1, 0, none⟩) 2 2] 34)) 9 #[.string ⟨#[102, 105, 108, 101, 100]⟩, .string ⟨#[116, 114, 105, 101, 100]⟩, .string ⟨#[104, 101, 97, 114, 100]⟩, .string ⟨#[100, 101, 99, 105, 100, 101, 100]⟩]).alloc (.cells #[.int .i64 0, .int .i64 1, .int .i64 1, .int .i64 2, .int .i64 2, .int .i64 3] 76)).alloc (.cells #[.string ⟨#[110, 101, 120, 116]⟩, .slice (some ⟨w.heap.size + 1 + 1 + 1 + 1 + 1, 0, none⟩) 4 4, .slice (some ⟨w.heap.size + 1 + 1 + 1 + 1 + 1 + 1, 0, none⟩) 3 3] 34)
  rw [show ((((((w.alloc (.cells #[.string ⟨#[]⟩, .slice none 0 0, .slice none 0 0] 34)).alloc (.cells #[.string ⟨#[]⟩, .slice none 0 0, .slice none 0 0] 34)).alloc (.cells #[.string ⟨#[102, 105, 108, 101, 100]⟩, .string ⟨#[104, 101, 97, 114, 100]⟩, .string ⟨#[100, 101, 99, 105, 100, 101, 100]⟩] 9)).alloc (.cells #[.int .i64 0, .int .i64 1, .int .i64 1, .int .i64 2] 76)).alloc (.cells #[.string ⟨#[111, 108, 100]⟩, .slice (some ⟨w.heap.size + 1 + 1, 0, none⟩) 3 3, .slice (some ⟨w.heap.size + 1 + 1 + 1, 0, none⟩) 2 2] 34))).heap.size = w.heap.size + 1 + 1 + 1 + 1 + 1 from by simp] at k5
  have k6 := (Blk.new ((((((w.alloc (.cells #[.string ⟨#[]⟩, .slice none 0 0, .slice none 0 0] 34)).alloc (.cells #[.string ⟨#[]⟩, .slice none 0 0, .slice none 0 0] 34)).alloc (.cells #[.string ⟨#[102, 105, 108, 101, 100]⟩, .string ⟨#[104, 101, 97, 114, 100]⟩, .string ⟨#[100, 101, 99, 105, 100, 101, 100]⟩] 9)).alloc (.cells #[.int .i64 0, .int .i64 1, .int .i64 1, .int .i64 2] 76)).alloc (.cells #[.string ⟨#[111, 108, 100]⟩, .slice (some ⟨w.heap.size + 1 + 1, 0, none⟩) 3 3, .slice (some ⟨w.heap.size + 1 + 1 + 1, 0, none⟩) 2 2] 34)).alloc (.cells #[.string ⟨#[102, 105, 108, 101, 100]⟩, .string ⟨#[116, 114, 105, 101, 100]⟩, .string ⟨#[104, 101, 97, 114, 100]⟩, .string ⟨#[100, 101, 99, 105, 100, 101, 100]⟩] 9)) 76 #[.int .i64 0, .int .i64 1, .int .i64 1, .int .i64 2, .int .i64 2, .int .i64 3]).alloc (.cells #[.string ⟨#[110, 101, 120, 116]⟩, .slice (some ⟨w.heap.size + 1 + 1 + 1 + 1 + 1, 0, none⟩) 4 4, .slice (some ⟨w.heap.size + 1 + 1 + 1 + 1 + 1 + 1, 0, none⟩) 3 3] 34)
  rw [show (((((((w.alloc (.cells #[.string ⟨#[]⟩, .slice none 0 0, .slice none 0 0] 34)).alloc (.cells #[.string ⟨#[]⟩, .slice none 0 0, .slice none 0 0] 34)).alloc (.cells #[.string ⟨#[102, 105, 108, 101, 100]⟩, .string ⟨#[104, 101, 97, 114, 100]⟩, .string ⟨#[100, 101, 99, 105, 100, 101, 100]⟩] 9)).alloc (.cells #[.int .i64 0, .int .i64 1, .int .i64 1, .int .i64 2] 76)).alloc (.cells #[.string ⟨#[111, 108, 100]⟩, .slice (some ⟨w.heap.size + 1 + 1, 0, none⟩) 3 3, .slice (some ⟨w.heap.size + 1 + 1 + 1, 0, none⟩) 2 2] 34)).alloc (.cells #[.string ⟨#[102, 105, 108, 101, 100]⟩, .string ⟨#[116, 114, 105, 101, 100]⟩, .string ⟨#[104, 101, 97, 114, 100]⟩, .string ⟨#[100, 101, 99, 105, 100, 101, 100]⟩] 9))).heap.size = w.heap.size + 1 + 1 + 1 + 1 + 1 + 1 from by simp] at k6
  have k7 := Blk.new (((((((w.alloc (.cells #[.string ⟨#[]⟩, .slice none 0 0, .slice none 0 0] 34)).alloc (.cells #[.string ⟨#[]⟩, .slice none 0 0, .slice none 0 0] 34)).alloc (.cells #[.string ⟨#[102, 105, 108, 101, 100]⟩, .string ⟨#[104, 101, 97, 114, 100]⟩, .string ⟨#[100, 101, 99, 105, 100, 101, 100]⟩] 9)).alloc (.cells #[.int .i64 0, .int .i64 1, .int .i64 1, .int .i64 2] 76)).alloc (.cells #[.string ⟨#[111, 108, 100]⟩, .slice (some ⟨w.heap.size + 1 + 1, 0, none⟩) 3 3, .slice (some ⟨w.heap.size + 1 + 1 + 1, 0, none⟩) 2 2] 34)).alloc (.cells #[.string ⟨#[102, 105, 108, 101, 100]⟩, .string ⟨#[116, 114, 105, 101, 100]⟩, .string ⟨#[104, 101, 97, 114, 100]⟩, .string ⟨#[100, 101, 99, 105, 100, 101, 100]⟩] 9)).alloc (.cells #[.int .i64 0, .int .i64 1, .int .i64 1, .int .i64 2, .int .i64 2, .int .i64 3] 76)) 34 #[.string ⟨#[110, 101, 120, 116]⟩, .slice (some ⟨w.heap.size + 1 + 1 + 1 + 1 + 1, 0, none⟩) 4 4, .slice (some ⟨w.heap.size + 1 + 1 + 1 + 1 + 1 + 1, 0, none⟩) 3 3]
  rw [show ((((((((w.alloc (.cells #[.string ⟨#[]⟩, .slice none 0 0, .slice none 0 0] 34)).alloc (.cells #[.string ⟨#[]⟩, .slice none 0 0, .slice none 0 0] 34)).alloc (.cells #[.string ⟨#[102, 105, 108, 101, 100]⟩, .string ⟨#[104, 101, 97, 114, 100]⟩, .string ⟨#[100, 101, 99, 105, 100, 101, 100]⟩] 9)).alloc (.cells #[.int .i64 0, .int .i64 1, .int .i64 1, .int .i64 2] 76)).alloc (.cells #[.string ⟨#[111, 108, 100]⟩, .slice (some ⟨w.heap.size + 1 + 1, 0, none⟩) 3 3, .slice (some ⟨w.heap.size + 1 + 1 + 1, 0, none⟩) 2 2] 34)).alloc (.cells #[.string ⟨#[102, 105, 108, 101, 100]⟩, .string ⟨#[116, 114, 105, 101, 100]⟩, .string ⟨#[104, 101, 97, 114, 100]⟩, .string ⟨#[100, 101, 99, 105, 100, 101, 100]⟩] 9)).alloc (.cells #[.int .i64 0, .int .i64 1, .int .i64 1, .int .i64 2, .int .i64 2, .int .i64 3] 76))).heap.size = w.heap.size + 1 + 1 + 1 + 1 + 1 + 1 + 1 from by simp] at k7
  go_enter Tryz.func32, Tryz.ntmps32
  go_upto_region 3 with fail
  generalize ((((((((w.alloc (.cells #[.string ⟨#[]⟩, .slice none 0 0, .slice none 0 0] 34)).alloc (.cells #[.string ⟨#[]⟩, .slice none 0 0, .slice none 0 0] 34)).alloc (.cells #[.string ⟨#[102, 105, 108, 101, 100]⟩, .string ⟨#[104, 101, 97, 114, 100]⟩, .string ⟨#[100, 101, 99, 105, 100, 101, 100]⟩] 9)).alloc (.cells #[.int .i64 0, .int .i64 1, .int .i64 1, .int .i64 2] 76)).alloc (.cells #[.string ⟨#[111, 108, 100]⟩, .slice (some ⟨w.heap.size + 1 + 1, 0, none⟩) 3 3, .slice (some ⟨w.heap.size + 1 + 1 + 1, 0, none⟩) 2 2] 34)).alloc (.cells #[.string ⟨#[102, 105, 108, 101, 100]⟩, .string ⟨#[116, 114, 105, 101, 100]⟩, .string ⟨#[104, 101, 97, 114, 100]⟩, .string ⟨#[100, 101, 99, 105, 100, 101, 100]⟩] 9)).alloc (.cells #[.int .i64 0, .int .i64 1, .int .i64 1, .int .i64 2, .int .i64 2, .int .i64 3] 76)).alloc (.cells #[.string ⟨#[110, 101, 120, 116]⟩, .slice (some ⟨w.heap.size + 1 + 1 + 1 + 1 + 1, 0, none⟩) 4 4, .slice (some ⟨w.heap.size + 1 + 1 + 1 + 1 + 1 + 1, 0, none⟩) 3 3] 34)) = W0 at *
  have HB := Lib.hid hb
  have K2 := Lib.hid k2
  have K3 := Lib.hid k3
  have K5 := Lib.hid k5
  have K6 := Lib.hid k6
  have K0 := Lib.hid k0
  have K1 := Lib.hid k1
  have K4 := Lib.hid k4
  have K7 := Lib.hid k7
  clear hb k0 k1 k2 k3 k4 k5 k6 k7
  refine wp_region_rg2 ((fun V => Only (fun i => i = w.heap.size ∨ i = w.heap.size + 1) W0 V ∧ (∃ a b c, Blk V (w.heap.size) 34 #[a, b, c]) ∧ ∃ a b c, Blk V (w.heap.size + 1) 34 #[a, b, c])) (fun V V' => (Blk V (w.heap.size) 34 #[.string ⟨#[111, 108, 100]⟩, .slice (some ⟨w.heap.size + 1 + 1, 0, none⟩) 3 3, .slice (some ⟨w.heap.size + 1 + 1 + 1, 0, none⟩) 2 2] → Blk V' (w.heap.size) 34 #[.string ⟨#[111, 108, 100]⟩, .slice (some ⟨w.heap.size + 1 + 1, 0, none⟩) 3 3, .slice (some ⟨w.heap.size + 1 + 1 + 1, 0, none⟩) 2 2]) ∧ (Blk V (w.heap.size + 1) 34 #[.string ⟨#[110, 101, 120, 116]⟩, .slice (some ⟨w.heap.size + 1 + 1 + 1 + 1 + 1, 0, none⟩) 4 4, .slice (some ⟨w.heap.size + 1 + 1 + 1 + 1 + 1 + 1, 0, none⟩) 3 3] → Blk V' (w.heap.size + 1) 34 #[.string ⟨#[110, 101, 120, 116]⟩, .slice (some ⟨w.heap.size + 1 + 1 + 1 + 1 + 1, 0, none⟩) 4 4, .slice (some ⟨w.heap.size + 1 + 1 + 1 + 1 + 1 + 1, 0, none⟩) 3 3])) ([isV (.agg #[.string ⟨#[111, 108, 100]⟩, .slice (some ⟨w.heap.size + 1 + 1, 0, none⟩) 3 3, .slice (some ⟨w.heap.size + 1 + 1 + 1, 0, none⟩) 2 2]), isV (.agg #[.string ⟨#[110, 101, 120, 116]⟩, .slice (some ⟨w.heap.size + 1 + 1 + 1 + 1 + 1, 0, none⟩) 4 4, .slice (some ⟨w.heap.size + 1 + 1 + 1 + 1 + 1 + 1, 0, none⟩) 3 3]), (⟨none, fun _ _ V => Blk V (w.heap.size) 34 #[.string ⟨#[111, 108, 100]⟩, .slice (some ⟨w.heap.size + 1 + 1, 0, none⟩) 3 3, .slice (some ⟨w.heap.size + 1 + 1 + 1, 0, none⟩) 2 2]⟩ : Phi), (⟨none, fun _ _ V => Blk V (w.heap.size + 1) 34 #[.string ⟨#[110, 101, 120, 116]⟩, .slice (some ⟨w.heap.size + 1 + 1 + 1 + 1 + 1, 0, none⟩) 4 4, .slice (some ⟨w.heap.size + 1 + 1 + 1 + 1 + 1 + 1, 0, none⟩) 3 3]⟩ : Phi)]) [0, 1, 2, 3] (by kernel_rfl) (by kernel_rfl) (by kernel_rfl) (⟨(Only.refl _ _).drew, ⟨_, _, _, K0.out⟩, _, _, _, K1.out⟩) ⟨isV_mono _, isV_mono _, fun _ _ w w' hr h => hr.1 h, fun _ _ w w' hr h => hr.2 h, trivial⟩ ?_
  intro F hF
  simp only [putAll, List.map_cons, List.map_nil, Act.put, List.setIfInBounds_toArray, List.set_cons_succ, List.set_cons_zero] at hF
  have HFX := Lib.hid hF
  clear hF
  refine ⟨fun Q' => ⟨?_, ?_, ?_, ?_, trivial⟩, ?_⟩
  · intro u W hS hd hp
    have HS := Lib.hid hS
    clear hS
    rw [HFX.out]
    clear hd hp 
    obtain ⟨r0, r1, r2⟩ := (HS.out.1.blk K4.out (by omega)).all
    go_wp2_with fail
    exact ⟨_, by rw [HFX.out]; simp [upd], rfl, HS.out, ⟨fun h => h, fun h => h⟩⟩
  · intro u W hS hd hp
    have HS := Lib.hid hS
    clear hS
    rw [HFX.out]
    clear hd hp 
    obtain ⟨r0, r1, r2⟩ := (HS.out.1.blk K7.out (by omega)).all
    go_wp2_with fail
    exact ⟨_, by rw [HFX.out]; simp [upd], rfl, HS.out, ⟨fun h => h, fun h => h⟩⟩
  · intro u W hS hd hp
    have HS := Lib.hid hS
    clear hS
    obtain ⟨d0, -⟩ := hd
    have e0 : u 0 = .agg #[.string ⟨#[111, 108, 100]⟩, .slice (some ⟨w.heap.size + 1 + 1, 0, none⟩) 3 3, .slice (some ⟨w.heap.size + 1 + 1 + 1, 0, none⟩) 2 2] := d0 rfl
    rw [HFX.out]
    simp only [e0]
    clear hp d0
    obtain ⟨q1, ⟨va, vb, vc, kk⟩, wa, wb, wc, k2⟩ := HS.out
    obtain ⟨r0, r1, r2⟩ := kk.all
    have KK := Lib.hid kk
    have K22 := Lib.hid k2
    clear kk k2
    go_wp2_with fail
    have kk := KK.out
    have k2 := K22.out
    exact ⟨undef, by rw [HFX.out]; simp [upd, e0], (((kk.set_ 0 (.string ⟨#[111, 108, 100]⟩)).set_ 1 (.slice (some ⟨w.heap.size + 1 + 1, 0, none⟩) 3 3)).set_ 2 (.slice (some ⟨w.heap.size + 1 + 1 + 1, 0, none⟩) 2 2)), ⟨((q1.setCell (p := ⟨w.heap.size, 0, none⟩) (.inl (.inl rfl)) _).setCell (p := ⟨w.heap.size, 1, none⟩) (.inl (.inl rfl)) _).setCell (p := ⟨w.heap.size, 2, none⟩) (.inl (.inl rfl)) _, ⟨_, _, _, (((kk.set_ 0 (.string ⟨#[111, 108, 100]⟩)).set_ 1 (.slice (some ⟨w.heap.size + 1 + 1, 0, none⟩) 3 3)).set_ 2 (.slice (some ⟨w.heap.size + 1 + 1 + 1, 0, none⟩) 2 2))⟩, _, _, _, ((k2.far (p := ⟨w.heap.size, 0, none⟩) (by show _ ≠ w.heap.size; omega) _).far (p := ⟨w.heap.size, 1, none⟩) (by show _ ≠ w.heap.size; omega) _).far (p := ⟨w.heap.size, 2, none⟩) (by show _ ≠ w.heap.size; omega) _⟩, ⟨fun _ => (((kk.set_ 0 (.string ⟨#[111, 108, 100]⟩)).set_ 1 (.slice (some ⟨w.heap.size + 1 + 1, 0, none⟩) 3 3)).set_ 2 (.slice (some ⟨w.heap.size + 1 + 1 + 1, 0, none⟩) 2 2)), fun h => by have k2 := h; exact ((k2.far (p := ⟨w.heap.size, 0, none⟩) (by show _ ≠ w.heap.size; omega) _).far (p := ⟨w.heap.size, 1, none⟩) (by show _ ≠ w.heap.size; omega) _).far (p := ⟨w.heap.size, 2, none⟩) (by show _ ≠ w.heap.size; omega) _⟩⟩
  · intro u W hS hd hp
    have HS := Lib.hid hS
    clear hS
    obtain ⟨d1, -⟩ := hd
    have e1 : u 1 = .agg #[.string ⟨#[110, 101, 120, 116]⟩, .slice (some ⟨w.heap.size + 1 + 1 + 1 + 1 + 1, 0, none⟩) 4 4, .slice (some ⟨w.heap.size + 1 + 1 + 1 + 1 + 1 + 1, 0, none⟩) 3 3] := d1 rfl
    rw [HFX.out]
    simp only [e1]
    clear hp d1
    obtain ⟨q1, ⟨wa, wb, wc, k2⟩, va, vb, vc, kk⟩ := HS.out
    obtain ⟨r0, r1, r2⟩ := kk.all
    have KK := Lib.hid kk
    have K22 := Lib.hid k2
    clear kk k2
    go_wp2_with fail
    have kk := KK.out
    have k2 := K22.out
    exact ⟨undef, by rw [HFX.out]; simp [upd, e1], (((kk.set_ 0 (.string ⟨#[110, 101, 120, 116]⟩)).set_ 1 (.slice (some ⟨w.heap.size + 1 + 1 + 1 + 1 + 1, 0, none⟩) 4 4)).set_ 2 (.slice (some ⟨w.heap.size + 1 + 1 + 1 + 1 + 1 + 1, 0, none⟩) 3 3)), ⟨((q1.setCell (p := ⟨w.heap.size + 1, 0, none⟩) (.inl (.inr rfl)) _).setCell (p := ⟨w.heap.size + 1, 1, none⟩) (.inl (.inr rfl)) _).setCell (p := ⟨w.heap.size + 1, 2, none⟩) (.inl (.inr rfl)) _, ⟨_, _, _, ((k2.far (p := ⟨w.heap.size + 1, 0, none⟩) (by show _ ≠ w.heap.size + 1; omega) _).far (p := ⟨w.heap.size + 1, 1, none⟩) (by show _ ≠ w.heap.size + 1; omega) _).far (p := ⟨w.heap.size + 1, 2, none⟩) (by show _ ≠ w.heap.size + 1; omega) _⟩, _, _, _, (((kk.set_ 0 (.string ⟨#[110, 101, 120, 116]⟩)).set_ 1 (.slice (some ⟨w.heap.size + 1 + 1 + 1 + 1 + 1, 0, none⟩) 4 4)).set_ 2 (.slice (some ⟨w.heap.size + 1 + 1 + 1 + 1 + 1 + 1, 0, none⟩) 3 3))⟩, ⟨fun h => by have k2 := h; exact ((k2.far (p := ⟨w.heap.size + 1, 0, none⟩) (by show _ ≠ w.heap.size + 1; omega) _).far (p := ⟨w.heap.size + 1, 1, none⟩) (by show _ ≠ w.heap.size + 1; omega) _).far (p := ⟨w.heap.size + 1, 2, none⟩) (by show _ ≠ w.heap.size + 1; omega) _, fun _ => (((kk.set_ 0 (.string ⟨#[110, 101, 120, 116]⟩)).set_ 1 (.slice (some ⟨w.heap.size + 1 + 1 + 1 + 1 + 1, 0, none⟩) 4 4)).set_ 2 (.slice (some ⟨w.heap.size + 1 + 1 + 1 + 1 + 1 + 1, 0, none⟩) 3 3))⟩⟩
  intro u W hS hf
  have c2 : Blk W (w.heap.size) 34 #[.string ⟨#[111, 108, 100]⟩, .slice (some ⟨w.heap.size + 1 + 1, 0, none⟩) 3 3, .slice (some ⟨w.heap.size + 1 + 1 + 1, 0, none⟩) 2 2] := hf 2 (by decide)
  have c3 : Blk W (w.heap.size + 1) 34 #[.string ⟨#[110, 101, 120, 116]⟩, .slice (some ⟨w.heap.size + 1 + 1 + 1 + 1 + 1, 0, none⟩) 4 4, .slice (some ⟨w.heap.size + 1 + 1 + 1 + 1 + 1 + 1, 0, none⟩) 3 3] := hf 3 (by decide)
  rw [HFX.out]
  have m1 := hS.1.blk K2.out (by omega)
  have m2 := hS.1.blk K3.out (by omega)
  have m3 := hS.1.blk K5.out (by omega)
  have m4 := hS.1.blk K6.out (by omega)
  have hb := HB.out.trans (hS.1.below HB.out.size (fun i hi => by omega))
  obtain ⟨t0, t1, t2⟩ := c2.all
  obtain ⟨u0, u1, u2⟩ := c3.all
  have M1 := Lib.hid m1
  have M2 := Lib.hid m2
  have M3 := Lib.hid m3
  have M4 := Lib.hid m4
  have HB2 := Lib.hid hb
  clear m1 m2 m3 m4 hb hf hS HFX F
  go_wp2
  refine bodyPost_ret (v := .tuple #[.agg #[.string ⟨#[111, 108, 100]⟩, .slice (some ⟨w.heap.size + 1 + 1, 0, none⟩) 3 3, .slice (some ⟨w.heap.size + 1 + 1 + 1, 0, none⟩) 2 2], .agg #[.string ⟨#[110, 101, 120, 116]⟩, .slice (some ⟨w.heap.size + 1 + 1 + 1 + 1 + 1, 0, none⟩) 4 4, .slice (some ⟨w.heap.size + 1 + 1 + 1 + 1 + 1 + 1, 0, none⟩) 3 3]]) (by simp [results, Tryz.results32, go_sem, t0, u0]) rfl ⟨⟨some ⟨w.heap.size + 1 + 1, 0, none⟩, 3, some ⟨w.heap.size + 1 + 1 + 1, 0, none⟩, 2⟩, ⟨some ⟨w.heap.size + 1 + 1 + 1 + 1 + 1, 0, none⟩, 4, some ⟨w.heap.size + 1 + 1 + 1 + 1 + 1 + 1, 0, none⟩, 3⟩, rfl, ⟨?_, ?_, by decide, ?_⟩, ⟨?_, ?_, by decide, ?_⟩, HB2.out⟩
  · intro i s hi
    refine ⟨w.heap.size + 1 + 1, 0, rfl, M1.out.lt, ?_⟩
    rw [M1.out.cell]
    match i, hi with
    | 0, hi => simp [exP] at hi; subst hi; exact rfl
    | 1, hi => simp [exP] at hi; subst hi; exact rfl
    | 2, hi => simp [exP] at hi; subst hi; exact rfl
    | i + 3, hi => simp [exP] at hi
  · intro i s hi
    refine ⟨w.heap.size + 1 + 1 + 1, 0, rfl, M2.out.lt, ?_⟩
    rw [M2.out.cell, M2.out.cell]
    match i, hi with
    | 0, hi => simp [exP] at hi; subst hi; exact ⟨rfl, rfl⟩
    | 1, hi => simp [exP] at hi; subst hi; exact ⟨rfl, rfl⟩
    | i + 2, hi => simp [exP] at hi
  · intro s hs
    simp only [exP, List.mem_cons, List.not_mem_nil, or_false] at hs
    rcases hs with rfl | rfl | rfl <;> decide
  · intro i s hi
    refine ⟨w.heap.size + 1 + 1 + 1 + 1 + 1, 0, rfl, M3.out.lt, ?_⟩
    rw [M3.out.cell]
    match i, hi with
    | 0, hi => simp [exQ] at hi; subst hi; exact rfl
    | 1, hi => simp [exQ] at hi; subst hi; exact rfl
    | 2, hi => simp [exQ] at hi; subst hi; exact rfl
    | 3, hi => simp [exQ] at hi; subst hi; exact rfl
    | i + 4, hi => simp [exQ] at hi
  · intro i s hi
    refine ⟨w.heap.size + 1 + 1 + 1 + 1 + 1 + 1, 0, rfl, M4.out.lt, ?_⟩
    rw [M4.out.cell, M4.out.cell]
    match i, hi with
    | 0, hi => simp [exQ] at hi; subst hi; exact ⟨rfl, rfl⟩
    | 1, hi => simp [exQ] at hi; subst hi; exact ⟨rfl, rfl⟩
    | 2, hi => simp [exQ] at hi; subst hi; exact ⟨rfl, rfl⟩
    | i + 3, hi => simp [exQ] at hi
  · intro s hs
    simp only [exQ, List.mem_cons, List.not_mem_nil, or_false] at hs
    rcases hs with rfl | rfl | rfl | rfl <;> decide
end Go.Proofs.YtknchlpcpgflkaaGreatDoor
