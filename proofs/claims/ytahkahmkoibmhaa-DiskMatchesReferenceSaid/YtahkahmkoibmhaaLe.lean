/- head of the statements about the disk: the fixed examples. -/
import Derived.Test.YtahkahmkoibmhaaLd
namespace Go.Proofs.Ytahkahmkoibmhaa
open Go.RowKit

def tA : ByteArray := (fillAc ⟨#[97]⟩).txt
def tB : ByteArray := (fillAc ⟨#[98]⟩).txt
def tZ : ByteArray := (fillAc ⟨#[0]⟩).txt
def u2 : ByteArray := tA.extract 2 tA.size
def vBB : ByteArray := ⟨#[98, 98]⟩ ++ u2
def vAB : ByteArray := ⟨#[97, 98]⟩ ++ u2
def hd0 : Dk := Dk.new 2
def hd1 : Dk := (hd0.write 0 tA).1
def hd2 : Dk := hd1.sync.1
def hd3 : Dk := (hd2.write 0 tB).1
def hd4 : Dk := hd3.fail 0 2
def hd5 : Dk := hd4.sync.1
def hd6 : Dk := hd5.start
def hd7 : Dk := (hd6.write 1 ⟨#[115, 104, 111, 114, 116]⟩).1
def hx0 : Dk := Dk.new 1
def hx1 : Dk := (hx0.write 0 tA).1
def hx2 : Dk := hx1.sync.1
def hx3 : Dk := hx2.rot 0 1 3
def hx4 : Dk := hx3.stale 0
def hk1 : Dk := hx0.doArm 1 1 2
def hk2 : Dk := (hk1.write 0 tA).1
def hk3 : Dk := (hk2.write 0 tB).1
def hk4 : Dk := hk3.start
theorem f1 : (hd0.write 0 tA).2 = 0 := by kernel_rfl
theorem f2 : hd1.sync.2 = 0 := by kernel_rfl
theorem f3 : (hd2.write 0 tB).2 = 0 := by kernel_rfl
theorem f4 : hd3.read 0 = (tB, 0) := by kernel_rfl
theorem f5 : hd4.sync.2 = 25 := by kernel_rfl
theorem f6 : hd6.read 0 = (vBB, 0) := by kernel_rfl
theorem f7 : hd6.read 1 = (tZ, 0) := by kernel_rfl
theorem f8 : hd6.read 2 = (ByteArray.empty, 1) := by kernel_rfl
theorem f9 : (hd6.write 1 ⟨#[115, 104, 111, 114, 116]⟩).2 = 1 := by kernel_rfl
theorem g1 : hx3.read 0 = (vAB, 0) := by kernel_rfl
theorem g2 : hx4.read 0 = (tZ, 0) := by kernel_rfl
theorem k1 : (hk1.write 0 tA).2 = 0 := by kernel_rfl
theorem k2 : (hk2.write 0 tB).2 = 25 := by kernel_rfl
theorem k3 : hk4.read 0 = (vBB, 0) := by kernel_rfl
theorem tA_size : tA.size = 64 := by kernel_rfl
theorem u2_size : u2.size = 62 := by kernel_rfl

theorem fillA (w : World) : Calls Try.prog 27 #[.string ⟨#[97]⟩] w fun e w' => e = .returned (.string tA) ∧ Below w.heap.size w w' := fill_any w ⟨#[97]⟩ (by decide)
theorem fillB (w : World) : Calls Try.prog 27 #[.string ⟨#[98]⟩] w fun e w' => e = .returned (.string tB) ∧ Below w.heap.size w w' := fill_any w ⟨#[98]⟩ (by decide)
theorem fill0 (w : World) : Calls Try.prog 27 #[.string ⟨#[0]⟩] w fun e w' => e = .returned (.string tZ) ∧ Below w.heap.size w w' := fill_any w ⟨#[0]⟩ (by decide)
theorem new2 (w : World) : Calls Try.prog 12 #[.int .i64 2] w fun e w' =>
    ∃ a, e = .returned (.pointer (some ⟨a, 0, none⟩)) ∧ Below w.heap.size w w' ∧ w.heap.size ≤ a ∧ DiskAt w' a hd0 (fun i => w.heap.size ≤ i ∧ i < w'.heap.size) := new_yes w 2 (by decide) (by decide)
theorem new1 (w : World) : Calls Try.prog 12 #[.int .i64 1] w fun e w' =>
    ∃ a, e = .returned (.pointer (some ⟨a, 0, none⟩)) ∧ Below w.heap.size w w' ∧ w.heap.size ≤ a ∧ DiskAt w' a hx0 (fun i => w.heap.size ≤ i ∧ i < w'.heap.size) := new_yes w 1 (by decide) (by decide)

set_option maxRecDepth 100000 in
set_option maxHeartbeats 4000000 in
theorem head_any (w : World) : Calls Try.prog 10 #[] w fun e w' => e = .returned (.bool true) ∧ Below w.heap.size w w' := by
  have sl : ∀ W : World, (Instr.slice 9 (.string tA) (some (.int .i64 2)) none none).run Try.prog W = .ok (.string u2) W := fun W => by
    unfold u2
    have := run_slice_string_l (P := Try.prog) W 9 tA (by kernel_rfl) .i64 2 (by omega) (by rw [tA_size]; omega)
    simpa using this
  have ad1 : ∀ W : World, (Op.stringOp .add ⟨#[98, 98]⟩ u2).run Try.prog W = .ok (.string vBB) W := fun W => run_string_add_sum W _ _ (by rw [u2_size]; decide)
  have ad2 : ∀ W : World, (Op.stringOp .add ⟨#[97, 98]⟩ u2).run Try.prog W = .ok (.string vAB) W := fun W => run_string_add_sum W _ _ (by rw [u2_size]; decide)
  go_enter Try.func10, Try.ntmps10
  go_wp2_with fail
  refine (new2 _).mono ?_
  rintro e w1 ⟨aw1, rfl, hbw1, -, hdw1⟩
  have Lw1 : Live w w1 aw1 hd0 (fun _ => False) := Live.of_new (Below.refl _ _) hbw1 hdw1
  clear hbw1 hdw1
  go_wp2_with fail
  refine (fillA _).mono ?_
  rintro e w2 ⟨rfl, hbw2⟩
  have Lw2 := Lw1.same hbw2
  clear hbw2 Lw1
  go_wp2_with fail
  refine (Lw2.lift fun F hF => write_any hF (by decide) 0 tA).mono ?_
  rintro e w3 ⟨rfl, Lw3, -⟩
  rw [f1]
  have Lw3' : Live w w3 _ hd1 _ := Lw3
  clear Lw2 Lw3
  go_wp2_with fail
  refine (Lw3'.lift fun F hF => sync_any hF).mono ?_
  rintro e w4 ⟨rfl, Lw4, -⟩
  rw [f2]
  have Lw4' : Live w w4 _ hd2 _ := Lw4
  clear Lw3' Lw4
  go_wp2_with fail
  refine (fillB _).mono ?_
  rintro e w5 ⟨rfl, hbw5⟩
  have Lw5 := Lw4'.same hbw5
  clear hbw5 Lw4'
  go_wp2_with fail
  refine (Lw5.lift fun F hF => write_any hF (by decide) 0 tB).mono ?_
  rintro e w6 ⟨rfl, Lw6, -⟩
  rw [f3]
  have Lw6' : Live w w6 _ hd3 _ := Lw6
  clear Lw5 Lw6
  go_wp2_with fail
  refine (Lw6'.look fun F hF => read_any hF 0).mono ?_
  rintro e w7 ⟨rfl, hbw7⟩
  rw [f4]
  have Lw7 := Lw6'.same hbw7
  clear hbw7 Lw6'
  go_wp2_with fail
  refine (Lw7.lift fun F hF => fail_any hF 0 2).mono ?_
  rintro e w8 ⟨rfl, Lw8, -⟩
  have Lw8' : Live w w8 _ hd4 _ := Lw8
  clear Lw7 Lw8
  go_wp2_with fail
  refine (Lw8'.lift fun F hF => sync_any hF).mono ?_
  rintro e w9 ⟨rfl, Lw9, -⟩
  rw [f5]
  have Lw9' : Live w w9 _ hd5 _ := Lw9
  clear Lw8' Lw9
  go_wp2_with fail
  refine (Lw9'.lift fun F hF => startany hF).mono ?_
  rintro e w10 ⟨rfl, Lw10, -⟩
  have Lw10' : Live w w10 _ hd6 _ := Lw10
  clear Lw9' Lw10
  go_wp2_with fail
  refine (Lw10'.look fun F hF => read_any hF 0).mono ?_
  rintro e w11 ⟨rfl, hbw11⟩
  rw [f6]
  have Lw11 := Lw10'.same hbw11
  clear hbw11 Lw10'
  go_wp2_with fail
  refine (Lw11.look fun F hF => read_any hF 1).mono ?_
  rintro e w12 ⟨rfl, hbw12⟩
  rw [f7]
  have Lw12 := Lw11.same hbw12
  clear hbw12 Lw11
  go_wp2_with fail
  refine (Lw12.look fun F hF => read_any hF 2).mono ?_
  rintro e w13 ⟨rfl, hbw13⟩
  rw [f8]
  have Lw13 := Lw12.same hbw13
  clear hbw13 Lw12
  go_wp2_with fail
  refine (Lw13.lift fun F hF => write_any hF (by decide) 1 ⟨#[115, 104, 111, 114, 116]⟩).mono ?_
  rintro e w14 ⟨rfl, Lw14, -⟩
  rw [f9]
  have Lw14' : Live w w14 _ hd7 _ := Lw14
  clear Lw13 Lw14
  go_wp2_with fail
  refine (fail_nil _ 1 1).mono ?_
  rintro e _ ⟨rfl, rfl⟩
  go_wp2_with fail
  refine (start_nil _).mono ?_
  rintro e _ ⟨rfl, rfl⟩
  go_wp2_with fail
  refine (arm_nil _ 0 1 1).mono ?_
  rintro e _ ⟨rfl, rfl⟩
  go_wp2_with fail
  refine (rot_nil _ 0 0 1).mono ?_
  rintro e w18 ⟨rfl, hbw18⟩
  have Lw18 := Lw14'.same hbw18
  clear hbw18 Lw14'
  go_wp2_with fail
  refine (stale_nil _ 0).mono ?_
  rintro e w19 ⟨rfl, hbw19⟩
  have Lw19 := Lw18.same hbw19
  clear hbw19 Lw18
  go_wp2_with fail
  refine (new1 _).mono ?_
  rintro e w20 ⟨aw20, rfl, hbw20, -, hdw20⟩
  have Lw20 : Live w w20 aw20 hx0 (fun _ => False) := Live.of_new (Lw19.below) hbw20 hdw20
  clear hbw20 hdw20
  go_wp2_with fail
  refine (fillA _).mono ?_
  rintro e w21 ⟨rfl, hbw21⟩
  have Lw21 := Lw20.same hbw21
  clear hbw21 Lw20
  go_wp2_with fail
  refine (Lw21.lift fun F hF => write_any hF (by decide) 0 tA).mono ?_
  rintro e w22 ⟨rfl, Lw22, -⟩
  have Lw22' : Live w w22 _ hx1 _ := Lw22
  clear Lw21 Lw22
  go_wp2_with fail
  refine (Lw22'.lift fun F hF => sync_any hF).mono ?_
  rintro e w23 ⟨rfl, Lw23, -⟩
  have Lw23' : Live w w23 _ hx2 _ := Lw23
  clear Lw22' Lw23
  go_wp2_with fail
  refine (Lw23'.lift fun F hF => rot_any hF 0 1 3).mono ?_
  rintro e w24 ⟨rfl, Lw24, -⟩
  have Lw24' : Live w w24 _ hx3 _ := Lw24
  clear Lw23' Lw24
  go_wp2_with fail
  refine (Lw24'.look fun F hF => read_any hF 0).mono ?_
  rintro e w25 ⟨rfl, hbw25⟩
  rw [g1]
  have Lw25 := Lw24'.same hbw25
  clear hbw25 Lw24'
  go_wp2_with fail
  refine (Lw25.lift fun F hF => stale_any hF 0).mono ?_
  rintro e w26 ⟨rfl, Lw26, -⟩
  have Lw26' : Live w w26 _ hx4 _ := Lw26
  clear Lw25 Lw26
  go_wp2_with fail
  refine (Lw26'.look fun F hF => read_any hF 0).mono ?_
  rintro e w27 ⟨rfl, hbw27⟩
  rw [g2]
  have Lw27 := Lw26'.same hbw27
  clear hbw27 Lw26'
  go_wp2_with fail
  refine (fillA _).mono ?_
  rintro e w28 ⟨rfl, hbw28⟩
  have Lw28 := Lw27.same hbw28
  clear hbw28 Lw27
  go_wp2_with fail
  refine (fill0 _).mono ?_
  rintro e w29 ⟨rfl, hbw29⟩
  have Lw29 := Lw28.same hbw29
  clear hbw29 Lw28
  go_wp2_with fail
  refine (new1 _).mono ?_
  rintro e w30 ⟨aw30, rfl, hbw30, -, hdw30⟩
  have Lw30 : Live w w30 aw30 hx0 (fun _ => False) := Live.of_new (Lw29.below) hbw30 hdw30
  clear hbw30 hdw30
  go_wp2_with fail
  refine (Lw30.lift fun F hF => arm_any hF 1 1 2 (by decide)).mono ?_
  rintro e w31 ⟨rfl, Lw31, -⟩
  have Lw31' : Live w w31 _ hk1 _ := Lw31
  clear Lw30 Lw31
  go_wp2_with fail
  refine (fillA _).mono ?_
  rintro e w32 ⟨rfl, hbw32⟩
  have Lw32 := Lw31'.same hbw32
  clear hbw32 Lw31'
  go_wp2_with fail
  refine (Lw32.lift fun F hF => write_any hF (by decide) 0 tA).mono ?_
  rintro e w33 ⟨rfl, Lw33, -⟩
  rw [k1]
  have Lw33' : Live w w33 _ hk2 _ := Lw33
  clear Lw32 Lw33
  go_wp2_with fail
  refine (fillB _).mono ?_
  rintro e w34 ⟨rfl, hbw34⟩
  have Lw34 := Lw33'.same hbw34
  clear hbw34 Lw33'
  go_wp2_with fail
  refine (Lw34.lift fun F hF => write_any hF (by decide) 0 tB).mono ?_
  rintro e w35 ⟨rfl, Lw35, -⟩
  rw [k2]
  have Lw35' : Live w w35 _ hk3 _ := Lw35
  clear Lw34 Lw35
  go_wp2_with fail
  refine (Lw35'.lift fun F hF => startany hF).mono ?_
  rintro e w36 ⟨rfl, Lw36, -⟩
  have Lw36' : Live w w36 _ hk4 _ := Lw36
  clear Lw35' Lw36
  go_wp2_with fail
  refine (Lw36'.look fun F hF => read_any hF 0).mono ?_
  rintro e w37 ⟨rfl, hbw37⟩
  rw [k3]
  have Lw37 := Lw36'.same hbw37
  clear hbw37 Lw36'
  go_wp2_with fail
  refine (fillA _).mono ?_
  rintro e w38 ⟨rfl, hbw38⟩
  have Lw38 := Lw37.same hbw38
  clear hbw38 Lw37
  go_wp2_with fail
  refine (fillB _).mono ?_
  rintro e w39 ⟨rfl, hbw39⟩
  have Lw39 := Lw38.same hbw39
  clear hbw39 Lw38
  go_wp2_with fail
  refine (fillA _).mono ?_
  rintro e w40 ⟨rfl, hbw40⟩
  have Lw40 := Lw39.same hbw40
  clear hbw40 Lw39
  go_wp2_with fail
  refine (fill0 _).mono ?_
  rintro e w41 ⟨rfl, hbw41⟩
  have Lw41 := Lw40.same hbw41
  clear hbw41 Lw40
  go_wp2_with fail
  refine (sync_nil _).mono ?_
  rintro e _ ⟨rfl, rfl⟩
  go_wp2_with fail
  refine (fillA _).mono ?_
  rintro e w43 ⟨rfl, hbw43⟩
  have Lw43 := Lw41.same hbw43
  clear hbw43 Lw41
  go_wp2_with fail
  refine (write_nil _ 0 tA).mono ?_
  rintro e w44 ⟨rfl, hbw44⟩
  have Lw44 := Lw43.same hbw44
  clear hbw44 Lw43
  go_wp2_with fail
  refine (new_no _ 0 (by omega)).mono ?_
  rintro e _ ⟨rfl, rfl⟩
  go_wp2_with fail
  refine (new_no _ 4001 (by omega)).mono ?_
  rintro e _ ⟨rfl, rfl⟩
  go_wp2
  go_ret
  exact ⟨rfl, Lw44.below⟩
end Go.Proofs.Ytahkahmkoibmhaa
