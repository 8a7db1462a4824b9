/- What the reference's calendar stands on (the Calendar seat). -/
import Derived.Test.YtfblngdmeliabaaDoorCz
import Derived.Test.YtfblngdmeliabaaDoorCk
import Derived.Test.YtfblngdmeliabaaDoorPlan
import Derived.StillTailTactics
import Derived.IntWalk
import Derived.Deep.QuietTactic
import Derived.BigQuiet
import Derived.Lib.Hide
namespace Go.Proofs.YtfblngdmeliabaaDoor
open Go.RowKit

theorem rIs_any (w : World) (n : Int) : Calls Tryd.prog 41 #[.int .i64 n] w fun e w' => e = .returned (.bool (isB n)) ∧ w = w' := by
  by_cases h0 : 0 ≤ n
  · by_cases h1 : n ≤ 1000000
    · rw [(isB_iff n).2 ⟨h0, h1⟩]
      go_enter Tryd.func41, Tryd.ntmps41
      go_wp2
      go_ret
      exact ⟨rfl, rfl⟩
    · rw [isB_no (.inr (by omega))]
      go_enter Tryd.func41, Tryd.ntmps41
      go_wp2
      go_ret
      exact ⟨rfl, rfl⟩
  · rw [isB_no (.inl (by omega))]
    go_enter Tryd.func41, Tryd.ntmps41
    go_wp2
    go_ret
    exact ⟨rfl, rfl⟩
end Go.Proofs.YtfblngdmeliabaaDoor
