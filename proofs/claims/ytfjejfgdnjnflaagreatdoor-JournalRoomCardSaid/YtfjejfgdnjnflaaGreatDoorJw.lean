/- A journal in memory; the deferred closure of Append. -/
import Derived.Test.YtfjejfgdnjnflaaGreatDoorJv
import Derived.Defers
namespace Go.Proofs.YtfjejfgdnjnflaaGreatDoor
open Go.RowKit Go.Shelf

set_option maxRecDepth 100000 in
theorem broke_any (u : FrameMode) (w : World) (j p4 p2 : Nat) (v0 v1 v2 v3 v4 : Value) (e : Int) (hj : Blk w j 53 #[v0, v1, v2, v3, v4])
    (h4 : w.cell? ⟨p4, 0, none⟩ = some (.int .i64 e)) (h2 : w.cell? ⟨p2, 0, none⟩ = some (.pointer (some ⟨j, 0, none⟩))) :
    CallsD Tryz.prog 49 #[.pointer (some ⟨p4, 0, none⟩), .pointer (some ⟨p2, 0, none⟩)] u w fun r u' w' => u' = u ∧ (r = .returned (.tuple #[]) ∧ w' = w.setCell ⟨j, 4, none⟩ (.bool (e != 0))) := by
  obtain ⟨x0, x1, x2⟩ := hj.all
  have hbn : (e != 0) = !(e == 0) := rfl
  go_enter_d Tryz.func49, Tryz.ntmps49
  go_wp2
  go_end0
  exact ⟨rfl, rfl⟩
end Go.Proofs.YtfjejfgdnjnflaaGreatDoor
