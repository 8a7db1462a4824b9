/- The reference's Formed. -/
import Derived.Test.YtknchlpcpgflkaaGreatDoorLGBQ
import Derived.Test.YtknchlpcpgflkaaGreatDoorLWv
import Derived.BigQuiet
namespace Go.Proofs.YtknchlpcpgflkaaGreatDoor
open Go.RowKit Go.Shelf

section
open Go.ChangeShapes Go.WideShapes Go.Deep
variable {H : Type} {enc : TypeId × Value → H} {w : World} {base : Nat} {spare : Nat → Bool} {held : Bool} {fuel len cap : Nat} {A : Option Addr} {x : DataW H × List MemPlace}
end
end Go.Proofs.YtknchlpcpgflkaaGreatDoor
