/-
  No cell of these rows narrows 'for every input' (looked for: loops, veiled, ifaces, maps, wideKeys, modest, calm, conditions, laid).
  DERIVED. THE GIVEN ROWS OF THIS SEAT. 6 by the template 'for every input the law returns true; each argument reads behind the call as it read before'; 0 by the template 'total and deterministic' (their statements: YtbihklfcdpgcgaaTotals.lean).
  GIVEN WITH THE SEED: the statements are not yours to turn. If you find one false, say at which input.
  Laid BY PROGRAM, IN A SANDBOX (cutbox-rows.mjs): the forced cells as the released guide's own fill.sh prints them over the translation cda59d068f734551… (all of the seat's roots in one cut). By AI agents, Wed Nov 11 2026. No macro, syntax, notation, axiom, sorry.
-/
import Derived.Test.YtbihklfcdpgcgaaChecked
import GoSem.Claim
import GoSem.ClaimJoined
import GoSem.ClaimMapViews
import Derived.JoinedTies
import Derived.KernelRfl
namespace Go.Proofs.Ytbihklfcdpgcgaa
/- THE CELL 'sum', in the pinned program and in every row, IS THE sha256 OF THE DUMP (.gsa) THAT YtbihklfcdpgcgaaProg.lean LOADS. Nothing in Lean hashes anything: it is a label: what it is worth is what the hold of that sum in a sandbox is worth. -/
noncomputable def Try.pinned : Pinned := { name := "ytbihklfcdpgcgaa", sum := "cda59d068f7345516689e01f8759a9fef558053a14943bd7a9ffc5af4a82b3ad", checked := Try.checked }
namespace Rows
def none {H : Type} : Left H := { results := [], args := [] }

/-- 'pandectlaw36.ClauseMatchesReference': WHATEVER THE INPUT: true; the input reads as it did. -/
def clauseMatchesReferenceSpec : ChangeSpec := { name := "clauseMatchesReference", fn := fun _ => fun
  | [d1, d2] => { results := [.lit (.bool true)], args := [d1, d2] }
  | _ => none }
def clauseMatchesReferenceRow : OpenClaim := { program := "ytbihklfcdpgcgaa", sum := "cda59d068f7345516689e01f8759a9fef558053a14943bd7a9ffc5af4a82b3ad", func := "pandect/pandectlaw36.ClauseMatchesReference", spec := "clauseMatchesReference", inPlace := ["maps.clone"], unfollowed := true, recurses := true, plainKeys := false, apart := false }
def ClauseMatchesReferenceSaid : Prop := clauseMatchesReferenceRow.holds Try.pinned (OpenSpec.ofChange clauseMatchesReferenceSpec)

/-- ITS FALSE NEIGHBOUR: 'it returns false'. Refute it at one input. -/
def clauseMatchesReferenceWrong : ChangeSpec := { name := "clauseMatchesReference", fn := fun _ => fun
  | [d1, d2] => { results := [.lit (.bool false)], args := [d1, d2] }
  | _ => none }
def ClauseMatchesReferenceWrongFalsely : Prop := clauseMatchesReferenceRow.holds Try.pinned (OpenSpec.ofChange clauseMatchesReferenceWrong)

/-- 'pandectlaw36.ClauseConverges': WHATEVER THE INPUT: true; the input reads as it did. -/
def clauseConvergesSpec : ChangeSpec := { name := "clauseConverges", fn := fun _ => fun
  | [d1, d2, d3] => { results := [.lit (.bool true)], args := [d1, d2, d3] }
  | _ => none }
def clauseConvergesRow : OpenClaim := { program := "ytbihklfcdpgcgaa", sum := "cda59d068f7345516689e01f8759a9fef558053a14943bd7a9ffc5af4a82b3ad", func := "pandect/pandectlaw36.ClauseConverges", spec := "clauseConverges", inPlace := ["maps.clone"], unfollowed := true, recurses := true, plainKeys := false, apart := false }
def ClauseConvergesSaid : Prop := clauseConvergesRow.holds Try.pinned (OpenSpec.ofChange clauseConvergesSpec)

/-- ITS FALSE NEIGHBOUR: 'it returns false'. Refute it at one input. -/
def clauseConvergesWrong : ChangeSpec := { name := "clauseConverges", fn := fun _ => fun
  | [d1, d2, d3] => { results := [.lit (.bool false)], args := [d1, d2, d3] }
  | _ => none }
def ClauseConvergesWrongFalsely : Prop := clauseConvergesRow.holds Try.pinned (OpenSpec.ofChange clauseConvergesWrong)

/-- 'pandectlaw36.ClauseOrders': WHATEVER THE INPUT: true; the input reads as it did. -/
def clauseOrdersSpec : ChangeSpec := { name := "clauseOrders", fn := fun _ => fun
  | [d] => { results := [.lit (.bool true)], args := [d] }
  | _ => none }
def clauseOrdersRow : OpenClaim := { program := "ytbihklfcdpgcgaa", sum := "cda59d068f7345516689e01f8759a9fef558053a14943bd7a9ffc5af4a82b3ad", func := "pandect/pandectlaw36.ClauseOrders", spec := "clauseOrders", inPlace := ["maps.clone"], unfollowed := true, recurses := true, plainKeys := false, apart := false }
def ClauseOrdersSaid : Prop := clauseOrdersRow.holds Try.pinned (OpenSpec.ofChange clauseOrdersSpec)

/-- ITS FALSE NEIGHBOUR: 'it returns false'. Refute it at one input. -/
def clauseOrdersWrong : ChangeSpec := { name := "clauseOrders", fn := fun _ => fun
  | [d] => { results := [.lit (.bool false)], args := [d] }
  | _ => none }
def ClauseOrdersWrongFalsely : Prop := clauseOrdersRow.holds Try.pinned (OpenSpec.ofChange clauseOrdersWrong)

/-- 'pandectlaw36.ClauseStable': WHATEVER THE INPUT: true; the input reads as it did. -/
def clauseStableSpec : ChangeSpec := { name := "clauseStable", fn := fun _ => fun
  | [d1, d2] => { results := [.lit (.bool true)], args := [d1, d2] }
  | _ => none }
def clauseStableRow : OpenClaim := { program := "ytbihklfcdpgcgaa", sum := "cda59d068f7345516689e01f8759a9fef558053a14943bd7a9ffc5af4a82b3ad", func := "pandect/pandectlaw36.ClauseStable", spec := "clauseStable", inPlace := ["maps.clone"], unfollowed := true, recurses := true, plainKeys := false, apart := false }
def ClauseStableSaid : Prop := clauseStableRow.holds Try.pinned (OpenSpec.ofChange clauseStableSpec)

/-- ITS FALSE NEIGHBOUR: 'it returns false'. Refute it at one input. -/
def clauseStableWrong : ChangeSpec := { name := "clauseStable", fn := fun _ => fun
  | [d1, d2] => { results := [.lit (.bool false)], args := [d1, d2] }
  | _ => none }
def ClauseStableWrongFalsely : Prop := clauseStableRow.holds Try.pinned (OpenSpec.ofChange clauseStableWrong)

/-- 'pandectlaw36.ClauseGone': WHATEVER THE INPUT: true; the input reads as it did. -/
def clauseGoneSpec : ChangeSpec := { name := "clauseGone", fn := fun _ => fun
  | [d1, d2] => { results := [.lit (.bool true)], args := [d1, d2] }
  | _ => none }
def clauseGoneRow : OpenClaim := { program := "ytbihklfcdpgcgaa", sum := "cda59d068f7345516689e01f8759a9fef558053a14943bd7a9ffc5af4a82b3ad", func := "pandect/pandectlaw36.ClauseGone", spec := "clauseGone", inPlace := ["maps.clone"], unfollowed := true, recurses := true, plainKeys := false, apart := false }
def ClauseGoneSaid : Prop := clauseGoneRow.holds Try.pinned (OpenSpec.ofChange clauseGoneSpec)

/-- ITS FALSE NEIGHBOUR: 'it returns false'. Refute it at one input. -/
def clauseGoneWrong : ChangeSpec := { name := "clauseGone", fn := fun _ => fun
  | [d1, d2] => { results := [.lit (.bool false)], args := [d1, d2] }
  | _ => none }
def ClauseGoneWrongFalsely : Prop := clauseGoneRow.holds Try.pinned (OpenSpec.ofChange clauseGoneWrong)

/-- 'pandectlaw36.ClauseRefuses': WHATEVER THE INPUT: true; the input reads as it did. -/
def clauseRefusesSpec : ChangeSpec := { name := "clauseRefuses", fn := fun _ => fun
  | [d1, d2, d3] => { results := [.lit (.bool true)], args := [d1, d2, d3] }
  | _ => none }
def clauseRefusesRow : OpenClaim := { program := "ytbihklfcdpgcgaa", sum := "cda59d068f7345516689e01f8759a9fef558053a14943bd7a9ffc5af4a82b3ad", func := "pandect/pandectlaw36.ClauseRefuses", spec := "clauseRefuses", inPlace := ["maps.clone"], unfollowed := true, recurses := true, plainKeys := false, apart := false }
def ClauseRefusesSaid : Prop := clauseRefusesRow.holds Try.pinned (OpenSpec.ofChange clauseRefusesSpec)

/-- ITS FALSE NEIGHBOUR: 'it returns false'. Refute it at one input. -/
def clauseRefusesWrong : ChangeSpec := { name := "clauseRefuses", fn := fun _ => fun
  | [d1, d2, d3] => { results := [.lit (.bool false)], args := [d1, d2, d3] }
  | _ => none }
def ClauseRefusesWrongFalsely : Prop := clauseRefusesRow.holds Try.pinned (OpenSpec.ofChange clauseRefusesWrong)

/- THE SECOND FORM. 'bulk': how many values and letters a reading holds, each counted each time it is reached (what is shared counts as often as it is met; a slice's spare places count too). A statement '..UptoSaid' is the law's where the arguments, and the package variables that the reading takes, are together of bulk at most 1048576: NARROWER than '..Said'. Prove '..Said' where nothing that the law and all that it calls make is longer than what came in: it says more and counts as full. Else prove '..UptoSaid'. A law counts once. -/
mutual
def uptoBulk {H : Type} : DataW H → Nat
  | .lit (.string bytes) => bytes.length + 1
  | .lit _ => 1
  | .nil => 1
  | .ptr d => uptoBulk d + 1
  | .slice elems spare => uptoBulkAll elems + uptoBulkAll spare + 1
  | .agg parts => uptoBulkAll parts + 1
  | .iface _ d => uptoBulk d + 1
  | .map entries => uptoBulkEntries entries + 1
  | .held _ => 1
def uptoBulkAll {H : Type} : List (DataW H) → Nat
  | [] => 0
  | d :: r => uptoBulk d + uptoBulkAll r
def uptoBulkEntries {H : Type} : List (Lit × DataW H) → Nat
  | [] => 0
  | x :: r => uptoBulkEntry x + uptoBulkEntries r
def uptoBulkEntry {H : Type} : Lit × DataW H → Nat
  | (.string bytes, d) => bytes.length + uptoBulk d + 1
  | (_, d) => uptoBulk d + 1
 end
def uptoSmall : (H : Type) → List (DataW H) → Bool := fun _ ds => decide (uptoBulkAll ds ≤ 1048576)
def OpenSpec.upto (s : _root_.Go.ChangeSpec) : _root_.Go.OpenSpec := { _root_.Go.OpenSpec.ofChange s with cond := some uptoSmall }

/-- 'pandectlaw36.ClauseMatchesReference', WHERE WHAT IT READS IS OF BULK AT MOST 1048576: true; the input reads as it did. -/
def clauseMatchesReferenceUptoRow : OpenClaim := { program := "ytbihklfcdpgcgaa", sum := "cda59d068f7345516689e01f8759a9fef558053a14943bd7a9ffc5af4a82b3ad", func := "pandect/pandectlaw36.ClauseMatchesReference", spec := "clauseMatchesReference", inPlace := ["maps.clone"], unfollowed := true, recurses := true, plainKeys := false, apart := false, narrowed := true }
def ClauseMatchesReferenceUptoSaid : Prop := clauseMatchesReferenceUptoRow.holds Try.pinned (OpenSpec.upto clauseMatchesReferenceSpec)

/-- 'pandectlaw36.ClauseConverges', WHERE WHAT IT READS IS OF BULK AT MOST 1048576: true; the input reads as it did. -/
def clauseConvergesUptoRow : OpenClaim := { program := "ytbihklfcdpgcgaa", sum := "cda59d068f7345516689e01f8759a9fef558053a14943bd7a9ffc5af4a82b3ad", func := "pandect/pandectlaw36.ClauseConverges", spec := "clauseConverges", inPlace := ["maps.clone"], unfollowed := true, recurses := true, plainKeys := false, apart := false, narrowed := true }
def ClauseConvergesUptoSaid : Prop := clauseConvergesUptoRow.holds Try.pinned (OpenSpec.upto clauseConvergesSpec)

/-- 'pandectlaw36.ClauseOrders', WHERE WHAT IT READS IS OF BULK AT MOST 1048576: true; the input reads as it did. -/
def clauseOrdersUptoRow : OpenClaim := { program := "ytbihklfcdpgcgaa", sum := "cda59d068f7345516689e01f8759a9fef558053a14943bd7a9ffc5af4a82b3ad", func := "pandect/pandectlaw36.ClauseOrders", spec := "clauseOrders", inPlace := ["maps.clone"], unfollowed := true, recurses := true, plainKeys := false, apart := false, narrowed := true }
def ClauseOrdersUptoSaid : Prop := clauseOrdersUptoRow.holds Try.pinned (OpenSpec.upto clauseOrdersSpec)

/-- 'pandectlaw36.ClauseStable', WHERE WHAT IT READS IS OF BULK AT MOST 1048576: true; the input reads as it did. -/
def clauseStableUptoRow : OpenClaim := { program := "ytbihklfcdpgcgaa", sum := "cda59d068f7345516689e01f8759a9fef558053a14943bd7a9ffc5af4a82b3ad", func := "pandect/pandectlaw36.ClauseStable", spec := "clauseStable", inPlace := ["maps.clone"], unfollowed := true, recurses := true, plainKeys := false, apart := false, narrowed := true }
def ClauseStableUptoSaid : Prop := clauseStableUptoRow.holds Try.pinned (OpenSpec.upto clauseStableSpec)

/-- 'pandectlaw36.ClauseGone', WHERE WHAT IT READS IS OF BULK AT MOST 1048576: true; the input reads as it did. -/
def clauseGoneUptoRow : OpenClaim := { program := "ytbihklfcdpgcgaa", sum := "cda59d068f7345516689e01f8759a9fef558053a14943bd7a9ffc5af4a82b3ad", func := "pandect/pandectlaw36.ClauseGone", spec := "clauseGone", inPlace := ["maps.clone"], unfollowed := true, recurses := true, plainKeys := false, apart := false, narrowed := true }
def ClauseGoneUptoSaid : Prop := clauseGoneUptoRow.holds Try.pinned (OpenSpec.upto clauseGoneSpec)

/-- 'pandectlaw36.ClauseRefuses', WHERE WHAT IT READS IS OF BULK AT MOST 1048576: true; the input reads as it did. -/
def clauseRefusesUptoRow : OpenClaim := { program := "ytbihklfcdpgcgaa", sum := "cda59d068f7345516689e01f8759a9fef558053a14943bd7a9ffc5af4a82b3ad", func := "pandect/pandectlaw36.ClauseRefuses", spec := "clauseRefuses", inPlace := ["maps.clone"], unfollowed := true, recurses := true, plainKeys := false, apart := false, narrowed := true }
def ClauseRefusesUptoSaid : Prop := clauseRefusesUptoRow.holds Try.pinned (OpenSpec.upto clauseRefusesSpec)

end Rows
end Go.Proofs.Ytbihklfcdpgcgaa
