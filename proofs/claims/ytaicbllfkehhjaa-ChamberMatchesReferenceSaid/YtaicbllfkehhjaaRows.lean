/-
  No cell of these rows narrows 'for every input' (looked for: loops, veiled, ifaces, maps, wideKeys, modest, calm, conditions, laid).
  DERIVED. THE GIVEN ROWS OF THIS SEAT. 5 by the template 'for every input the law returns true; each argument reads behind the call as it read before'; 0 by the template 'total and deterministic' (their statements: YtaicbllfkehhjaaTotals.lean).
  GIVEN WITH THE SEED: the statements are not yours to turn. If you find one false, say at which input.
  Laid BY PROGRAM, IN A SANDBOX (cutbox-rows.mjs): the forced cells as the released guide's own fill.sh prints them over the translation 0d2b36d44fdc76c9… (all of the seat's roots in one cut). By AI agents, Wed Nov 11 2026. No macro, syntax, notation, axiom, sorry.
-/
import Derived.Test.YtaicbllfkehhjaaChecked
import GoSem.Claim
import GoSem.ClaimJoined
import GoSem.ClaimMapViews
import Derived.JoinedTies
import Derived.KernelRfl
namespace Go.Proofs.Ytaicbllfkehhjaa
/- THE CELL 'sum', in the pinned program and in every row, IS THE sha256 OF THE DUMP (.gsa) THAT YtaicbllfkehhjaaProg.lean LOADS. Nothing in Lean hashes anything: it is a label: what it is worth is what the hold of that sum in a sandbox is worth. -/
noncomputable def Try.pinned : Pinned := { name := "ytaicbllfkehhjaa", sum := "0d2b36d44fdc76c9362300f8ac0e1a5d841ec0099c60205d5f0c9b3878585114", checked := Try.checked }
namespace Rows
def none {H : Type} : Left H := { results := [], args := [] }

/-- 'pandectlaw37.ChamberMatchesReference': WHATEVER THE INPUT: true; the input reads as it did. -/
def chamberMatchesReferenceSpec : ChangeSpec := { name := "chamberMatchesReference", fn := fun _ => fun
  | [d1, d2] => { results := [.lit (.bool true)], args := [d1, d2] }
  | _ => none }
def chamberMatchesReferenceRow : OpenClaim := { program := "ytaicbllfkehhjaa", sum := "0d2b36d44fdc76c9362300f8ac0e1a5d841ec0099c60205d5f0c9b3878585114", func := "pandect/pandectlaw37.ChamberMatchesReference", spec := "chamberMatchesReference", unfollowed := true, recurses := true, plainKeys := false, apart := false }
def ChamberMatchesReferenceSaid : Prop := chamberMatchesReferenceRow.holds Try.pinned (OpenSpec.ofChange chamberMatchesReferenceSpec)

/-- ITS FALSE NEIGHBOUR: 'it returns false'. Refute it at one input. -/
def chamberMatchesReferenceWrong : ChangeSpec := { name := "chamberMatchesReference", fn := fun _ => fun
  | [d1, d2] => { results := [.lit (.bool false)], args := [d1, d2] }
  | _ => none }
def ChamberMatchesReferenceWrongFalsely : Prop := chamberMatchesReferenceRow.holds Try.pinned (OpenSpec.ofChange chamberMatchesReferenceWrong)

/-- 'pandectlaw37.ChamberSettles': WHATEVER THE INPUT: true; the input reads as it did. -/
def chamberSettlesSpec : ChangeSpec := { name := "chamberSettles", fn := fun _ => fun
  | [d1, d2] => { results := [.lit (.bool true)], args := [d1, d2] }
  | _ => none }
def chamberSettlesRow : OpenClaim := { program := "ytaicbllfkehhjaa", sum := "0d2b36d44fdc76c9362300f8ac0e1a5d841ec0099c60205d5f0c9b3878585114", func := "pandect/pandectlaw37.ChamberSettles", spec := "chamberSettles", unfollowed := true, recurses := true, plainKeys := false, apart := false }
def ChamberSettlesSaid : Prop := chamberSettlesRow.holds Try.pinned (OpenSpec.ofChange chamberSettlesSpec)

/-- ITS FALSE NEIGHBOUR: 'it returns false'. Refute it at one input. -/
def chamberSettlesWrong : ChangeSpec := { name := "chamberSettles", fn := fun _ => fun
  | [d1, d2] => { results := [.lit (.bool false)], args := [d1, d2] }
  | _ => none }
def ChamberSettlesWrongFalsely : Prop := chamberSettlesRow.holds Try.pinned (OpenSpec.ofChange chamberSettlesWrong)

/-- 'pandectlaw37.ChamberOrder': WHATEVER THE INPUT: true; the input reads as it did. -/
def chamberOrderSpec : ChangeSpec := { name := "chamberOrder", fn := fun _ => fun
  | [d1, d2, d3, d4] => { results := [.lit (.bool true)], args := [d1, d2, d3, d4] }
  | _ => none }
def chamberOrderRow : OpenClaim := { program := "ytaicbllfkehhjaa", sum := "0d2b36d44fdc76c9362300f8ac0e1a5d841ec0099c60205d5f0c9b3878585114", func := "pandect/pandectlaw37.ChamberOrder", spec := "chamberOrder", unfollowed := true, recurses := true, plainKeys := false, apart := false }
def ChamberOrderSaid : Prop := chamberOrderRow.holds Try.pinned (OpenSpec.ofChange chamberOrderSpec)

/-- ITS FALSE NEIGHBOUR: 'it returns false'. Refute it at one input. -/
def chamberOrderWrong : ChangeSpec := { name := "chamberOrder", fn := fun _ => fun
  | [d1, d2, d3, d4] => { results := [.lit (.bool false)], args := [d1, d2, d3, d4] }
  | _ => none }
def ChamberOrderWrongFalsely : Prop := chamberOrderRow.holds Try.pinned (OpenSpec.ofChange chamberOrderWrong)

/-- 'pandectlaw37.ChamberStamps': WHATEVER THE INPUT: true; the input reads as it did. -/
def chamberStampsSpec : ChangeSpec := { name := "chamberStamps", fn := fun _ => fun
  | [d1, d2] => { results := [.lit (.bool true)], args := [d1, d2] }
  | _ => none }
def chamberStampsRow : OpenClaim := { program := "ytaicbllfkehhjaa", sum := "0d2b36d44fdc76c9362300f8ac0e1a5d841ec0099c60205d5f0c9b3878585114", func := "pandect/pandectlaw37.ChamberStamps", spec := "chamberStamps", unfollowed := true, recurses := true, plainKeys := false, apart := false }
def ChamberStampsSaid : Prop := chamberStampsRow.holds Try.pinned (OpenSpec.ofChange chamberStampsSpec)

/-- ITS FALSE NEIGHBOUR: 'it returns false'. Refute it at one input. -/
def chamberStampsWrong : ChangeSpec := { name := "chamberStamps", fn := fun _ => fun
  | [d1, d2] => { results := [.lit (.bool false)], args := [d1, d2] }
  | _ => none }
def ChamberStampsWrongFalsely : Prop := chamberStampsRow.holds Try.pinned (OpenSpec.ofChange chamberStampsWrong)

/-- 'pandectlaw37.ChamberKeeps': WHATEVER THE INPUT: true; the input reads as it did. -/
def chamberKeepsSpec : ChangeSpec := { name := "chamberKeeps", fn := fun _ => fun
  | [d1, d2, d3, d4] => { results := [.lit (.bool true)], args := [d1, d2, d3, d4] }
  | _ => none }
def chamberKeepsRow : OpenClaim := { program := "ytaicbllfkehhjaa", sum := "0d2b36d44fdc76c9362300f8ac0e1a5d841ec0099c60205d5f0c9b3878585114", func := "pandect/pandectlaw37.ChamberKeeps", spec := "chamberKeeps", unfollowed := true, recurses := true, plainKeys := false, apart := false }
def ChamberKeepsSaid : Prop := chamberKeepsRow.holds Try.pinned (OpenSpec.ofChange chamberKeepsSpec)

/-- ITS FALSE NEIGHBOUR: 'it returns false'. Refute it at one input. -/
def chamberKeepsWrong : ChangeSpec := { name := "chamberKeeps", fn := fun _ => fun
  | [d1, d2, d3, d4] => { results := [.lit (.bool false)], args := [d1, d2, d3, d4] }
  | _ => none }
def ChamberKeepsWrongFalsely : Prop := chamberKeepsRow.holds Try.pinned (OpenSpec.ofChange chamberKeepsWrong)

/- THE SECOND FORM. 'bulk': how many values and letters a reading holds, each counted each time it is reached (what is shared counts as often as it is met; a slice's spare places count too). A statement '..UptoSaid' is the law's where the arguments, and the package variables that the reading takes, are together of bulk at most 1048576: NARROWER than '..Said'. Prove '..Said' where nothing that the law and all that it calls make is longer than what came in: it says more and counts as full. Else prove '..UptoSaid'. A law counts once. -/
mutual
def uptoBulk {H : Type} : DataW H → Nat
  | .lit (.string bytes) => bytes.length + 1
  | .lit _ => 1
  | .nil => 1
  | .ptr d => uptoBulk d + 1
  | .slice elems spare => uptoBulkAll elems + uptoBulkAll spare + 1
  | .agg parts => uptoBulkAll parts + 1
  | .iface _ d => uptoBulk d + 1
  | .map entries => uptoBulkEntries entries + 1
  | .held _ => 1
def uptoBulkAll {H : Type} : List (DataW H) → Nat
  | [] => 0
  | d :: r => uptoBulk d + uptoBulkAll r
def uptoBulkEntries {H : Type} : List (Lit × DataW H) → Nat
  | [] => 0
  | x :: r => uptoBulkEntry x + uptoBulkEntries r
def uptoBulkEntry {H : Type} : Lit × DataW H → Nat
  | (.string bytes, d) => bytes.length + uptoBulk d + 1
  | (_, d) => uptoBulk d + 1
 end
def uptoSmall : (H : Type) → List (DataW H) → Bool := fun _ ds => decide (uptoBulkAll ds ≤ 1048576)
def OpenSpec.upto (s : _root_.Go.ChangeSpec) : _root_.Go.OpenSpec := { _root_.Go.OpenSpec.ofChange s with cond := some uptoSmall }

/-- 'pandectlaw37.ChamberMatchesReference', WHERE WHAT IT READS IS OF BULK AT MOST 1048576: true; the input reads as it did. -/
def chamberMatchesReferenceUptoRow : OpenClaim := { program := "ytaicbllfkehhjaa", sum := "0d2b36d44fdc76c9362300f8ac0e1a5d841ec0099c60205d5f0c9b3878585114", func := "pandect/pandectlaw37.ChamberMatchesReference", spec := "chamberMatchesReference", unfollowed := true, recurses := true, plainKeys := false, apart := false, narrowed := true }
def ChamberMatchesReferenceUptoSaid : Prop := chamberMatchesReferenceUptoRow.holds Try.pinned (OpenSpec.upto chamberMatchesReferenceSpec)

/-- 'pandectlaw37.ChamberSettles', WHERE WHAT IT READS IS OF BULK AT MOST 1048576: true; the input reads as it did. -/
def chamberSettlesUptoRow : OpenClaim := { program := "ytaicbllfkehhjaa", sum := "0d2b36d44fdc76c9362300f8ac0e1a5d841ec0099c60205d5f0c9b3878585114", func := "pandect/pandectlaw37.ChamberSettles", spec := "chamberSettles", unfollowed := true, recurses := true, plainKeys := false, apart := false, narrowed := true }
def ChamberSettlesUptoSaid : Prop := chamberSettlesUptoRow.holds Try.pinned (OpenSpec.upto chamberSettlesSpec)

/-- 'pandectlaw37.ChamberOrder', WHERE WHAT IT READS IS OF BULK AT MOST 1048576: true; the input reads as it did. -/
def chamberOrderUptoRow : OpenClaim := { program := "ytaicbllfkehhjaa", sum := "0d2b36d44fdc76c9362300f8ac0e1a5d841ec0099c60205d5f0c9b3878585114", func := "pandect/pandectlaw37.ChamberOrder", spec := "chamberOrder", unfollowed := true, recurses := true, plainKeys := false, apart := false, narrowed := true }
def ChamberOrderUptoSaid : Prop := chamberOrderUptoRow.holds Try.pinned (OpenSpec.upto chamberOrderSpec)

/-- 'pandectlaw37.ChamberStamps', WHERE WHAT IT READS IS OF BULK AT MOST 1048576: true; the input reads as it did. -/
def chamberStampsUptoRow : OpenClaim := { program := "ytaicbllfkehhjaa", sum := "0d2b36d44fdc76c9362300f8ac0e1a5d841ec0099c60205d5f0c9b3878585114", func := "pandect/pandectlaw37.ChamberStamps", spec := "chamberStamps", unfollowed := true, recurses := true, plainKeys := false, apart := false, narrowed := true }
def ChamberStampsUptoSaid : Prop := chamberStampsUptoRow.holds Try.pinned (OpenSpec.upto chamberStampsSpec)

/-- 'pandectlaw37.ChamberKeeps', WHERE WHAT IT READS IS OF BULK AT MOST 1048576: true; the input reads as it did. -/
def chamberKeepsUptoRow : OpenClaim := { program := "ytaicbllfkehhjaa", sum := "0d2b36d44fdc76c9362300f8ac0e1a5d841ec0099c60205d5f0c9b3878585114", func := "pandect/pandectlaw37.ChamberKeeps", spec := "chamberKeeps", unfollowed := true, recurses := true, plainKeys := false, apart := false, narrowed := true }
def ChamberKeepsUptoSaid : Prop := chamberKeepsUptoRow.holds Try.pinned (OpenSpec.upto chamberKeepsSpec)

end Rows
end Go.Proofs.Ytaicbllfkehhjaa
