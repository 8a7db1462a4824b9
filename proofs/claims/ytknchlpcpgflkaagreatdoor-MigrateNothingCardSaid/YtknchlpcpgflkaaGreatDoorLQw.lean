/- In a round inside the wide fence: a region that draws its order: operations that only read, then a tail that comes up one at a time. Over any program. -/
import Derived.Test.YtknchlpcpgflkaaGreatDoorLPlan
import Derived.OrdersIn
import Derived.TacticsIn
import Derived.RangeFuncNested
namespace Go.Proofs.YtknchlpcpgflkaaGreatDoor
open Go.RowKit

section
variable {P : Program} {n l0 : Nat} {md : Region.Mode} {ops : Array Oper} {Q : Exit → Act → World → Prop}
end
end Go.Proofs.YtknchlpcpgflkaaGreatDoor
