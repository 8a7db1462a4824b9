/- What settle, count, Fail, Write, Read, Sync, Start, Arm, Rot, Stale and New of package disk do to a disk in memory. -/
import Derived.Test.YtfjejfgdnjnflaaGreatDoorDa
namespace Go.Proofs.YtfjejfgdnjnflaaGreatDoor
open Go.RowKit

theorem qcells_len (q : List (Nat × ByteArray)) : (qcells q).length = q.length * 3 := by
  induction q with
  | nil => rfl
  | cons p q ih => simp [qcells] at ih ⊢; omega
theorem qcells_at (q : List (Nat × ByteArray)) (k : Nat) (p : Nat × ByteArray) (hk : q[k]? = some p) :
    (qcells q)[k * 3]? = some (.int .i64 (64 * (p.1 : Int))) ∧ (qcells q)[k * 3 + 1]? = some (.int .i64 (64 * (p.1 : Int) + 64)) ∧ (qcells q)[k * 3 + 2]? = some (.string p.2) := by
  induction q generalizing k with
  | nil => simp at hk
  | cons p' q ih =>
    cases k with
    | zero => simp at hk; subst hk; simp [qcells]
    | succ k =>
      have := ih k (by simpa using hk)
      have e : (k + 1) * 3 = k * 3 + 3 := by omega
      simp only [qcells, List.flatMap_cons] at this ⊢
      rw [e]
      simpa using this

section
variable {w : World} {a b1 b2 : Nat} {qv : Value} {ga : Option Nat} {d : Dk} {F : Foot}

theorem DiskAt'.qat (h : DiskAt' w a b1 b2 qv ga d F) (k : Nat) (p : Nat × ByteArray) (hp : d.q[k]? = some p) : ∃ g c, qv = .slice (some ⟨g, 0, none⟩) d.q.length c ∧ w.cell? ⟨g, k * 3, none⟩ = some (.int .i64 (64 * (p.1 : Int))) ∧
    w.cell? ⟨g, k * 3 + 1, none⟩ = some (.int .i64 (64 * (p.1 : Int) + 64)) ∧ w.cell? ⟨g, k * 3 + 2, none⟩ = some (.string p.2) := by
  have ho := h.q
  obtain ⟨hk, _⟩ := List.getElem?_eq_some_iff.1 hp
  rcases ho.2 with ⟨_, h0⟩ | ⟨g, cap, cur, hv, _⟩
  · omega
  · subst hv
    obtain ⟨e1, e2, e3⟩ := qcells_at d.q k p hp
    have c := h.q.cellAt
    refine ⟨g, cap, rfl, ?_, ?_, ?_⟩
    · rw [c _ (by omega)]; exact e1
    · rw [c _ (by omega)]; exact e2
    · rw [c _ (by omega)]; exact e3

set_option maxRecDepth 100000 in
set_option maxHeartbeats 400000 in
theorem settle_any (h : DiskAt' w a b1 b2 qv ga d F) (A : Option Addr) (n c m c' : Nat) (hq : qv = .slice A n c) (hm : m ≤ d.q.length) :
    Calls Tryz.prog 61 #[.pointer (some ⟨a, 0, none⟩), .slice A m c'] w fun e w' =>
      e = .returned (.tuple #[]) ∧ Only F w w' ∧ DiskAt' w' a b1 b2 qv ga (d.settle (d.q.take m)) F := by
  have hql := h.qlen
  go_enter Tryz.func61, Tryz.ntmps61
  go_wp2_with fail
  go_loopw [5, 8] (fun _ i wr => ∃ k : Nat, k ≤ m ∧ i = .int .i64 k ∧ Only F w wr ∧ DiskAt' wr a b1 b2 qv ga (d.settle (d.q.take k)) F) (fun _ i _ => m - (intOf i).toNat)
  case atStart => exact ⟨0, by omega, rfl, Only.refl _ _, h⟩
  case round =>
    obtain ⟨k, hk, rfl, hO, hD⟩ := hrel
    by_cases hlt : k < m
    · obtain ⟨p, hp⟩ : ∃ p, d.q[k]? = some p := ⟨_, List.getElem?_eq_getElem (by omega)⟩
      have hsame := Dk.settle_same (d.q.take k) d
      obtain ⟨g, c0, hqv, e1, e2, e3⟩ := hD.qat k p (by rw [hsame.2.1]; exact hp)
      rw [hq] at hqv
      injection hqv with hA _ _
      subst hA
      have hqk : p.1 < d.n ∧ p.2.size = 64 := h.ok.q _ (List.mem_of_getElem? hp)
      have HS := Lib.hid (Dk.settle_take d d.q k p hp)
      have HQ := Lib.hid hq
      have HM := Lib.hid hsame
      have HP := Lib.hid hp
      clear hq hsame hp
      obtain ⟨s, t⟩ := p
      go_wp2_with fail
      refine (set_any (hD.keep ((Only.refl (fun _ => False) wr).alloc _) (by simp)) s t (by rw [HM.out.1]; exact hqk.1) (by omega)).mono ?_
      rintro e w1 ⟨rfl, o1, d1⟩
      go_wp2
      go_roundw
      case rel => exact ⟨k + 1, by omega, by go_num, (hO.alloc _).trans o1 (fun i hi => .inl hi), by rw [HS.out]; exact d1⟩
      case measure => simp [intOf]; omega
    · go_wp2
      go_end0
      obtain rfl : k = m := by omega
      exact ⟨rfl, hO, hD⟩
end
end Go.Proofs.YtfjejfgdnjnflaaGreatDoor
