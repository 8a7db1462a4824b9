/- The lexer: the class at an offset; tokens. -/
import Derived.Test.YtgfahifdmacmhaaGreatDoorQb
import Derived.RangeFuncBound
import Derived.Laws.EntriesVeiled
namespace Go.Proofs.YtgfahifdmacmhaaGreatDoor
open Go.RowKit Go.Shelf

/-- The class at an offset. -/
def atV (l : List UInt8) (i : Nat) : Nat := match l[i]? with
  | some c => clN c.toNat
  | none => 0
/-- What the iterator over tokens reads. -/
structure TokAt (w : World) (bt bc ba : Nat) (s : ByteArray) : Prop where
  txt : Blk w bt 9 #[.string s]
  cls : Blk w bc 170 clsA
  at_ : Blk w ba 172 #[.func (.func 127) #[] #[.pointer (some ⟨bt, 0, none⟩), .pointer (some ⟨bc, 0, none⟩)]]
theorem TokAt.below {w w' : World} {bt bc ba : Nat} {s : ByteArray} {B : Nat} (h : TokAt w bt bc ba s) (hb : Below B w w') (h1 : bt < B) (h2 : bc < B) (h3 : ba < B) : TokAt w' bt bc ba s := ⟨h.txt.below hb h1, h.cls.below hb h2, h.at_.below hb h3⟩

set_option maxRecDepth 100000 in
theorem at_any (w : World) (s : ByteArray) (bt bc ba : Nat) (h : TokAt w bt bc ba s) (i : Nat) (hi : i ≤ s.size) :
    Calls Tryz.prog 127 #[.int .i64 (i : Int), .pointer (some ⟨bt, 0, none⟩), .pointer (some ⟨bc, 0, none⟩)] w fun e w' => e = .returned (.int .u8 (atV s.data.toList i : Nat)) ∧ w = w' := by
  have c0 := h.txt.cell 0
  by_cases hlt : i < s.size
  · obtain ⟨c, hc⟩ : ∃ c, s.data.toList[i]? = some c := ⟨_, List.getElem?_eq_getElem (by rw [len_bytes]; exact hlt)⟩
    have hget : s[i] = c := by
      obtain ⟨h1, h2⟩ := List.getElem?_eq_some_iff.1 hc
      rw [← h2]
      rfl
    have hv : atV s.data.toList i = clN c.toNat := by unfold atV; rw [hc]
    have h255 := c.toNat_lt
    have c1 := h.cls.cell c.toNat
    rw [clsA_at h255, uv] at c1
    rw [hv]
    clear hv hc h
    go_enter Tryz.func127, Tryz.ntmps127
    go_wp2
    go_ret
    exact ⟨rfl, rfl⟩
  · obtain rfl : i = s.size := by omega
    have hv : atV s.data.toList s.size = 0 := by unfold atV; rw [List.getElem?_eq_none (by rw [len_bytes]; exact Nat.le_refl _)]
    rw [hv]
    clear hv h
    go_enter Tryz.func127, Tryz.ntmps127
    go_wp2
    go_ret
    exact ⟨rfl, rfl⟩

set_option maxRecDepth 100000 in
set_option maxHeartbeats 1000000 in
theorem tokens_any (w : World) (s : ByteArray) : Calls Tryz.prog 106 #[.string s] w fun e w' =>
    ∃ bt bc ba, w.heap.size ≤ bt ∧ w.heap.size ≤ bc ∧ w.heap.size ≤ ba ∧ e = .returned (.func (.func 128) #[] #[.pointer (some ⟨bt, 0, none⟩), .pointer (some ⟨ba, 0, none⟩)]) ∧ TokAt w' bt bc ba s ∧ Below w.heap.size w w' := by
  obtain ⟨hz, hi⟩ := zero_of_info infoArr
  obtain ⟨Z, hZ⟩ : ∃ Z, Array.replicate 256 (Value.int .u8 0) = Z := ⟨_, rfl⟩
  have hZs : Z.size = 256 := by rw [← hZ]; simp
  rw [hZ] at hz
  have HZS := Lib.hid hZs
  clear hZ hZs
  go_enter Tryz.func106, Tryz.ntmps106
  go_wp2_with fail
  refine (classes_any _).mono ?_
  rintro e w1 ⟨rfl, b1⟩
  have hb := ((Below.refl w.heap.size w).alloc (Nat.le_refl _) (.cells #[.string s] 9)).trans (b1.mono (by simp))
  have k0 := (Blk.new w 9 #[.string s]).below b1 (by simp)
  have hput := run_storeCells_new (P := Tryz.prog) w1 170 Z clsA (by rw [hi, clsA_size]) (by rw [HZS.out, clsA_size]) clsA_one
  have k1 := Blk.new w1 170 clsA
  have hb2 := hb.alloc hb.size (.cells clsA 170)
  have k2 := k0.alloc (.cells clsA 170)
  have hsz : (w1.alloc (.cells clsA 170)).heap.size = w1.heap.size + 1 := by simp
  have hle := hb.size
  clear b1 k0 hb
  go_wp2
  go_ret
  refine ⟨w.heap.size, w1.heap.size, w1.heap.size + 1, Nat.le_refl _, hle, by omega, rfl, ⟨k2.alloc _, k1.alloc _, ?_⟩, hb2.alloc hb2.size _⟩
  exact Blk.new1 w1 _ _ _
end Go.Proofs.YtgfahifdmacmhaaGreatDoor
