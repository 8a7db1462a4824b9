/- min and max of two integers, over any program. -/
import Derived.WalkKit
import Derived.WalkSpells
namespace Go.Proofs.YtfblngdmeliabaaDoor
open Go.RowKit
variable {P : Program}
theorem run_max2 (x y z : Int) (h : z = max x y) (ts : Array TypeId) (t : TypeId) (W : World) : (Builtin.max_ ts t #[.int .i64 x, .int .i64 y]).run P W = .ok (.int .i64 z) W := by
  rw [run_max_int2]; congr 2; subst h; split <;> omega
theorem run_min2 (x y z : Int) (h : z = min x y) (ts : Array TypeId) (t : TypeId) (W : World) : (Builtin.min_ ts t #[.int .i64 x, .int .i64 y]).run P W = .ok (.int .i64 z) W := by
  rw [run_min_int2]; congr 2; subst h; split <;> omega
end Go.Proofs.YtfblngdmeliabaaDoor
