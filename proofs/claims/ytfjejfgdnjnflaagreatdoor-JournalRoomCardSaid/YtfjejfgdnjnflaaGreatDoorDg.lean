/- Each operation of package disk by one contract, in terms of the disk as plain data. -/
import Derived.Test.YtfjejfgdnjnflaaGreatDoorDf
namespace Go.Proofs.YtfjejfgdnjnflaaGreatDoor
open Go.RowKit

/-- Behind a call that may have turned the disk at a alone it is d'. -/
def Stp (w w' : World) (a : Nat) (d' : Dk) (F : Foot) : Prop := ∃ F', Only F' w w' ∧ (∀ k, F' k → F k ∨ w.heap.size ≤ k) ∧ DiskAt w' a d' F'

theorem Stp.same {w w' : World} {a : Nat} {d : Dk} {F : Foot} (h : DiskAt w a d F) (hb : Below w.heap.size w w') : Stp w w' a d F := by
  obtain ⟨b1, b2, qv, ga, h⟩ := h
  exact ⟨F, Only.of_below hb _, fun k hk => .inl hk, b1, b2, qv, ga, h.keep (Only.of_below hb (fun _ => False)) (by simp)⟩
theorem Stp.of {w w' : World} {a : Nat} {d : Dk} {F : Foot} (hO : Only F w w') (h : DiskAt w' a d F) : Stp w w' a d F := ⟨F, hO, fun _ hk => .inl hk, h⟩

section
variable {w : World} {a : Nat} {d : Dk} {F : Foot}

theorem write_any (h : DiskAt w a d F) (hl : d.q.length < 4096) (s : Int) (t : ByteArray) :
    Calls Tryz.prog 76 #[.pointer (some ⟨a, 0, none⟩), .int .i64 s, .string t] w fun e w' => e = .returned (.int .i64 (d.write s t).2) ∧ Stp w w' a (d.write s t).1 F := by
  obtain ⟨b1, b2, qv, ga, h⟩ := h
  cases ho : d.off with
  | true =>
    have e : d.write s t = (d, 25) := by unfold Dk.write; rw [ho]; rfl
    rw [e]
    exact (write_off h ho s t).mono fun _ _ ⟨h1, h2⟩ => ⟨h1, Stp.same ⟨b1, b2, qv, ga, h⟩ h2⟩
  | false =>
    cases hs : d.has s with
    | false =>
      have e : d.write s t = (d, 1) := by unfold Dk.write; rw [ho, hs]; rfl
      rw [e]
      exact (write_no h ho s hs t).mono fun _ _ ⟨h1, h2⟩ => ⟨h1, Stp.same ⟨b1, b2, qv, ga, h⟩ h2⟩
    | true =>
      have hs' : 0 ≤ s ∧ s < d.n := by simpa [Dk.has] using hs
      obtain ⟨i, rfl⟩ := Int.eq_ofNat_of_zero_le hs'.1
      by_cases ht : t.size = 64
      · have e : d.write (i : Int) t = Dk.count { d with q := d.q ++ [(i, t)] } := by unfold Dk.write; rw [ho, hs]; simp [ht]
        rw [e]
        refine (write_yes h ho i (by omega) t (by simp; omega) hl).mono ?_
        rintro e w1 ⟨rfl, F', o1, f1, h1⟩
        exact ⟨rfl, F', o1, f1, h1⟩
      · have e : d.write (i : Int) t = (d, 1) := by unfold Dk.write; rw [ho, hs]; simp [ht]
        rw [e]
        exact (write_short h ho i (by omega) t (by simp; omega)).mono fun _ _ ⟨h1, h2⟩ => ⟨h1, Stp.same ⟨b1, b2, qv, ga, h⟩ h2⟩

theorem read_any (h : DiskAt w a d F) (s : Int) :
    Calls Tryz.prog 31 #[.pointer (some ⟨a, 0, none⟩), .int .i64 s] w fun e w' => e = .returned (.tuple #[.string (d.read s).1, .int .i64 (d.read s).2]) ∧ Below w.heap.size w w' := by
  obtain ⟨b1, b2, qv, ga, h⟩ := h
  cases ho : d.off with
  | true =>
    have e : d.read s = (ByteArray.empty, 25) := by unfold Dk.read; rw [ho]; rfl
    rw [e]
    exact read_off h ho s
  | false =>
    cases hs : d.has s with
    | false =>
      have e : d.read s = (ByteArray.empty, 1) := by unfold Dk.read; rw [ho, hs]; rfl
      rw [e]
      exact read_no h ho s hs
    | true =>
      have hs' : 0 ≤ s ∧ s < d.n := by simpa [Dk.has] using hs
      obtain ⟨i, rfl⟩ := Int.eq_ofNat_of_zero_le hs'.1
      have e : d.read (i : Int) = (d.view i, 0) := by unfold Dk.read; rw [ho, hs]; simp
      rw [e]
      exact read_yes h ho i (by omega)

theorem sync_any (h : DiskAt w a d F) : Calls Tryz.prog 77 #[.pointer (some ⟨a, 0, none⟩)] w fun e w' => e = .returned (.int .i64 d.sync.2) ∧ Stp w w' a d.sync.1 F := by
  obtain ⟨b1, b2, qv, ga, h⟩ := h
  cases ho : d.off with
  | true =>
    have e : d.sync = (d, 25) := by unfold Dk.sync; rw [ho]; rfl
    rw [e]
    exact (sync_off h ho).mono fun _ _ ⟨h1, h2⟩ => ⟨h1, Stp.same ⟨b1, b2, qv, ga, h⟩ (by rw [← h2]; exact Below.refl _ _)⟩
  | false => exact (sync_on h ho).mono fun _ _ ⟨h1, h2, h3⟩ => ⟨h1, Stp.of h2 h3⟩

theorem startany (h : DiskAt w a d F) : Calls Tryz.prog 22 #[.pointer (some ⟨a, 0, none⟩)] w fun e w' => e = .returned (.tuple #[]) ∧ Stp w w' a d.start F := by
  obtain ⟨b1, b2, qv, ga, h⟩ := h
  exact (start_any h).mono fun _ _ ⟨h1, h2, h3⟩ => ⟨h1, Stp.of h2 h3⟩

set_option maxRecDepth 100000 in
set_option maxHeartbeats 400000 in
theorem fail_off (h : DiskAt w a d F) (ho : d.off = true) (x y : Int) : Calls Tryz.prog 20 #[.pointer (some ⟨a, 0, none⟩), .int .i64 x, .int .i64 y] w fun e w' => e = .returned (.tuple #[]) ∧ w = w' := by
  obtain ⟨b1, b2, qv, ga, h⟩ := h
  obtain ⟨c0, f0, hlt⟩ := h.main.all
  simp only [ho] at c0
  clear ho
  go_enter Tryz.func20, Tryz.ntmps20
  go_wp2
  refine bodyPost_ret (results_none rfl _ _ _) rfl ?_
  exact ⟨rfl, rfl⟩

set_option maxRecDepth 100000 in
set_option maxHeartbeats 400000 in
theorem fail_nil (w : World) (x y : Int) : Calls Tryz.prog 20 #[.pointer none, .int .i64 x, .int .i64 y] w fun e w' => e = .returned (.tuple #[]) ∧ w = w' := by
  go_enter Tryz.func20, Tryz.ntmps20
  go_wp2
  refine bodyPost_ret (results_none rfl _ _ _) rfl ?_
  exact ⟨rfl, rfl⟩

theorem fail_any (h : DiskAt w a d F) (x y : Int) : Calls Tryz.prog 20 #[.pointer (some ⟨a, 0, none⟩), .int .i64 x, .int .i64 y] w fun e w' => e = .returned (.tuple #[]) ∧ Stp w w' a (d.fail x y) F := by
  cases ho : d.off with
  | true =>
    have e : d.fail x y = d := by unfold Dk.fail; rw [ho]; rfl
    rw [e]
    exact (fail_off h ho x y).mono fun _ _ ⟨h1, h2⟩ => ⟨h1, Stp.same h (by rw [← h2]; exact Below.refl _ _)⟩
  | false =>
    obtain ⟨b1, b2, qv, ga, h⟩ := h
    exact (fail_on h ho x y).mono fun _ _ ⟨h1, h2, h3⟩ => ⟨h1, Stp.of h2 ⟨_, _, _, _, h3⟩⟩

theorem arm_any (h : DiskAt w a d F) (x y z : Int) (hx : x ≤ 9223372036854775807) : Calls Tryz.prog 24 #[.pointer (some ⟨a, 0, none⟩), .int .i64 x, .int .i64 y, .int .i64 z] w fun e w' => e = .returned (.tuple #[]) ∧ Stp w w' a (d.doArm x y z) F := by
  obtain ⟨b1, b2, qv, ga, h⟩ := h
  cases ho : d.off with
  | true =>
    have e : d.doArm x y z = d := by unfold Dk.doArm; rw [ho]; rfl
    rw [e]
    exact (arm_off h ho x y z).mono fun _ _ ⟨h1, h2⟩ => ⟨h1, Stp.same ⟨b1, b2, qv, ga, h⟩ (by rw [← h2]; exact Below.refl _ _)⟩
  | false =>
    by_cases h0 : x < 0
    · exact (arm_no h ho x y z h0).mono fun _ _ ⟨h1, h2, h3⟩ => ⟨h1, Stp.of h2 h3⟩
    · exact (arm_yes h ho x y z (by omega) hx).mono fun _ _ ⟨h1, h2⟩ => ⟨h1, h2⟩

theorem rot_any (h : DiskAt w a d F) (x y z : Int) : Calls Tryz.prog 26 #[.pointer (some ⟨a, 0, none⟩), .int .i64 x, .int .i64 y, .int .i64 z] w fun e w' => e = .returned (.tuple #[]) ∧ Stp w w' a (d.rot x y z) F := by
  obtain ⟨b1, b2, qv, ga, h⟩ := h
  by_cases hc : d.has x = true ∧ 0 ≤ y ∧ y < 64 ∧ 0 < z ∧ z < 256
  · obtain ⟨hs, h1, h2, h3, h4⟩ := hc
    have hs' : 0 ≤ x ∧ x < d.n := by simpa [Dk.has] using hs
    obtain ⟨i, rfl⟩ := Int.eq_ofNat_of_zero_le hs'.1
    obtain ⟨k, rfl⟩ := Int.eq_ofNat_of_zero_le h1
    obtain ⟨m, rfl⟩ := Int.eq_ofNat_of_zero_le (Int.le_of_lt h3)
    exact (rot_yes h i k m (by omega) (by omega) (by omega) (by omega)).mono fun _ _ ⟨h1, h2, h3⟩ => ⟨h1, Stp.of h2 h3⟩
  · have e : d.rot x y z = d := by unfold Dk.rot; rw [if_neg hc]
    rw [e]
    exact (rot_no h x y z hc).mono fun _ _ ⟨h1, h2⟩ => ⟨h1, Stp.same ⟨b1, b2, qv, ga, h⟩ h2⟩

theorem stale_any (h : DiskAt w a d F) (x : Int) : Calls Tryz.prog 28 #[.pointer (some ⟨a, 0, none⟩), .int .i64 x] w fun e w' => e = .returned (.tuple #[]) ∧ Stp w w' a (d.stale x) F := by
  obtain ⟨b1, b2, qv, ga, h⟩ := h
  cases hs : d.has x with
  | true =>
    have hs' : 0 ≤ x ∧ x < d.n := by simpa [Dk.has] using hs
    obtain ⟨i, rfl⟩ := Int.eq_ofNat_of_zero_le hs'.1
    exact (stale_yes h i (by omega)).mono fun _ _ ⟨h1, h2, h3⟩ => ⟨h1, Stp.of h2 h3⟩
  | false =>
    have e : d.stale x = d := by unfold Dk.stale; rw [if_neg (by simp [hs])]
    rw [e]
    exact (stale_no h x hs).mono fun _ _ ⟨h1, h2⟩ => ⟨h1, Stp.same ⟨b1, b2, qv, ga, h⟩ h2⟩
end
end Go.Proofs.YtfjejfgdnjnflaaGreatDoor
