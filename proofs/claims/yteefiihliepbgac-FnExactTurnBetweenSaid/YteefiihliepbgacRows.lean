/-
  No cell of these rows narrows 'for every input' (looked for: loops, veiled, ifaces, maps, wideKeys, modest, calm, conditions, laid).
  DERIVED. THE GIVEN ROWS OF THIS SEAT. 8 by the template 'for every input the law returns true; each argument reads behind the call as it read before'; 0 by the template 'total and deterministic' (their statements: YteefiihliepbgacTotals.lean).
  GIVEN WITH THE SEED: the statements are not yours to turn. If you find one false, say at which input.
  Laid BY PROGRAM, IN A SANDBOX (cutbox-rows.mjs): the forced cells as the released guide's own fill.sh prints them over the translation 89a22b92be5dc25d… (all of the seat's roots in one cut). By AI agents, Wed Nov 11 2026. No macro, syntax, notation, axiom, sorry.
-/
import Derived.Test.YteefiihliepbgacChecked
import GoSem.Claim
import GoSem.ClaimJoined
import GoSem.ClaimMapViews
import Derived.JoinedTies
import Derived.KernelRfl
namespace Go.Proofs.Yteefiihliepbgac
/- THE CELL 'sum', in the pinned program and in every row, IS THE sha256 OF THE DUMP (.gsa) THAT YteefiihliepbgacProg.lean LOADS. Nothing in Lean hashes anything: it is a label: what it is worth is what the hold of that sum in a sandbox is worth. -/
noncomputable def Try.pinned : Pinned := { name := "yteefiihliepbgac", sum := "89a22b92be5dc25d1e6291eefbbc699209c7de272a3814246e16d625c9cd7218", checked := Try.checked }
namespace Rows
def none {H : Type} : Left H := { results := [], args := [] }

/-- 'laws.FnExactRootNumber': WHATEVER THE INPUT: true; the input reads as it did. -/
def fnExactRootNumberSpec : ChangeSpec := { name := "fnExactRootNumber", fn := fun _ => fun
  | [d] => { results := [.lit (.bool true)], args := [d] }
  | _ => none }
def fnExactRootNumberRow : OpenClaim := { program := "yteefiihliepbgac", sum := "89a22b92be5dc25d1e6291eefbbc699209c7de272a3814246e16d625c9cd7218", func := "loop.example/g01180/laws.FnExactRootNumber", spec := "fnExactRootNumber", inPlace := ["math.sqrt"], apart := false }
def FnExactRootNumberSaid : Prop := fnExactRootNumberRow.holds Try.pinned (OpenSpec.ofChange fnExactRootNumberSpec)

/-- ITS FALSE NEIGHBOUR: 'it returns false'. Refute it at one input. -/
def fnExactRootNumberWrong : ChangeSpec := { name := "fnExactRootNumber", fn := fun _ => fun
  | [d] => { results := [.lit (.bool false)], args := [d] }
  | _ => none }
def FnExactRootNumberWrongFalsely : Prop := fnExactRootNumberRow.holds Try.pinned (OpenSpec.ofChange fnExactRootNumberWrong)

/-- 'laws.FnExactLongOf': WHATEVER THE INPUT: true; the input reads as it did. -/
def fnExactLongOfSpec : ChangeSpec := { name := "fnExactLongOf", fn := fun _ => fun
  | [d] => { results := [.lit (.bool true)], args := [d] }
  | _ => none }
def fnExactLongOfRow : OpenClaim := { program := "yteefiihliepbgac", sum := "89a22b92be5dc25d1e6291eefbbc699209c7de272a3814246e16d625c9cd7218", func := "loop.example/g01180/laws.FnExactLongOf", spec := "fnExactLongOf", inPlace := ["math.sqrt"], apart := false }
def FnExactLongOfSaid : Prop := fnExactLongOfRow.holds Try.pinned (OpenSpec.ofChange fnExactLongOfSpec)

/-- ITS FALSE NEIGHBOUR: 'it returns false'. Refute it at one input. -/
def fnExactLongOfWrong : ChangeSpec := { name := "fnExactLongOf", fn := fun _ => fun
  | [d] => { results := [.lit (.bool false)], args := [d] }
  | _ => none }
def FnExactLongOfWrongFalsely : Prop := fnExactLongOfRow.holds Try.pinned (OpenSpec.ofChange fnExactLongOfWrong)

/-- 'laws.FnExactNearTurn': WHATEVER THE INPUT: true; the input reads as it did. -/
def fnExactNearTurnSpec : ChangeSpec := { name := "fnExactNearTurn", fn := fun _ => fun
  | [d1, d2, d3] => { results := [.lit (.bool true)], args := [d1, d2, d3] }
  | _ => none }
def fnExactNearTurnRow : OpenClaim := { program := "yteefiihliepbgac", sum := "89a22b92be5dc25d1e6291eefbbc699209c7de272a3814246e16d625c9cd7218", func := "loop.example/g01180/laws.FnExactNearTurn", spec := "fnExactNearTurn", inPlace := ["math.sqrt"], apart := false }
def FnExactNearTurnSaid : Prop := fnExactNearTurnRow.holds Try.pinned (OpenSpec.ofChange fnExactNearTurnSpec)

/-- ITS FALSE NEIGHBOUR: 'it returns false'. Refute it at one input. -/
def fnExactNearTurnWrong : ChangeSpec := { name := "fnExactNearTurn", fn := fun _ => fun
  | [d1, d2, d3] => { results := [.lit (.bool false)], args := [d1, d2, d3] }
  | _ => none }
def FnExactNearTurnWrongFalsely : Prop := fnExactNearTurnRow.holds Try.pinned (OpenSpec.ofChange fnExactNearTurnWrong)

/-- 'laws.FnExactCurveTurn': WHATEVER THE INPUT: true; the input reads as it did. -/
def fnExactCurveTurnSpec : ChangeSpec := { name := "fnExactCurveTurn", fn := fun _ => fun
  | [d1, d2, d3, d4, d5] => { results := [.lit (.bool true)], args := [d1, d2, d3, d4, d5] }
  | _ => none }
def fnExactCurveTurnRow : OpenClaim := { program := "yteefiihliepbgac", sum := "89a22b92be5dc25d1e6291eefbbc699209c7de272a3814246e16d625c9cd7218", func := "loop.example/g01180/laws.FnExactCurveTurn", spec := "fnExactCurveTurn", inPlace := ["math.sqrt"], apart := false }
def FnExactCurveTurnSaid : Prop := fnExactCurveTurnRow.holds Try.pinned (OpenSpec.ofChange fnExactCurveTurnSpec)

/-- ITS FALSE NEIGHBOUR: 'it returns false'. Refute it at one input. -/
def fnExactCurveTurnWrong : ChangeSpec := { name := "fnExactCurveTurn", fn := fun _ => fun
  | [d1, d2, d3, d4, d5] => { results := [.lit (.bool false)], args := [d1, d2, d3, d4, d5] }
  | _ => none }
def FnExactCurveTurnWrongFalsely : Prop := fnExactCurveTurnRow.holds Try.pinned (OpenSpec.ofChange fnExactCurveTurnWrong)

/-- 'laws.FnExactTurnBetween': WHATEVER THE INPUT: true; the input reads as it did. -/
def fnExactTurnBetweenSpec : ChangeSpec := { name := "fnExactTurnBetween", fn := fun _ => fun
  | [d1, d2] => { results := [.lit (.bool true)], args := [d1, d2] }
  | _ => none }
def fnExactTurnBetweenRow : OpenClaim := { program := "yteefiihliepbgac", sum := "89a22b92be5dc25d1e6291eefbbc699209c7de272a3814246e16d625c9cd7218", func := "loop.example/g01180/laws.FnExactTurnBetween", spec := "fnExactTurnBetween", inPlace := ["math.sqrt"], apart := false }
def FnExactTurnBetweenSaid : Prop := fnExactTurnBetweenRow.holds Try.pinned (OpenSpec.ofChange fnExactTurnBetweenSpec)

/-- ITS FALSE NEIGHBOUR: 'it returns false'. Refute it at one input. -/
def fnExactTurnBetweenWrong : ChangeSpec := { name := "fnExactTurnBetween", fn := fun _ => fun
  | [d1, d2] => { results := [.lit (.bool false)], args := [d1, d2] }
  | _ => none }
def FnExactTurnBetweenWrongFalsely : Prop := fnExactTurnBetweenRow.holds Try.pinned (OpenSpec.ofChange fnExactTurnBetweenWrong)

/-- 'laws.FnExactSwingAndTwist': WHATEVER THE INPUT: true; the input reads as it did. -/
def fnExactSwingAndTwistSpec : ChangeSpec := { name := "fnExactSwingAndTwist", fn := fun _ => fun
  | [d1, d2] => { results := [.lit (.bool true)], args := [d1, d2] }
  | _ => none }
def fnExactSwingAndTwistRow : OpenClaim := { program := "yteefiihliepbgac", sum := "89a22b92be5dc25d1e6291eefbbc699209c7de272a3814246e16d625c9cd7218", func := "loop.example/g01180/laws.FnExactSwingAndTwist", spec := "fnExactSwingAndTwist", inPlace := ["math.sqrt"], apart := false }
def FnExactSwingAndTwistSaid : Prop := fnExactSwingAndTwistRow.holds Try.pinned (OpenSpec.ofChange fnExactSwingAndTwistSpec)

/-- ITS FALSE NEIGHBOUR: 'it returns false'. Refute it at one input. -/
def fnExactSwingAndTwistWrong : ChangeSpec := { name := "fnExactSwingAndTwist", fn := fun _ => fun
  | [d1, d2] => { results := [.lit (.bool false)], args := [d1, d2] }
  | _ => none }
def FnExactSwingAndTwistWrongFalsely : Prop := fnExactSwingAndTwistRow.holds Try.pinned (OpenSpec.ofChange fnExactSwingAndTwistWrong)

/-- 'laws.FnExactMatrixOf': WHATEVER THE INPUT: true; the input reads as it did. -/
def fnExactMatrixOfSpec : ChangeSpec := { name := "fnExactMatrixOf", fn := fun _ => fun
  | [d] => { results := [.lit (.bool true)], args := [d] }
  | _ => none }
def fnExactMatrixOfRow : OpenClaim := { program := "yteefiihliepbgac", sum := "89a22b92be5dc25d1e6291eefbbc699209c7de272a3814246e16d625c9cd7218", func := "loop.example/g01180/laws.FnExactMatrixOf", spec := "fnExactMatrixOf", apart := false }
def FnExactMatrixOfSaid : Prop := fnExactMatrixOfRow.holds Try.pinned (OpenSpec.ofChange fnExactMatrixOfSpec)

/-- ITS FALSE NEIGHBOUR: 'it returns false'. Refute it at one input. -/
def fnExactMatrixOfWrong : ChangeSpec := { name := "fnExactMatrixOf", fn := fun _ => fun
  | [d] => { results := [.lit (.bool false)], args := [d] }
  | _ => none }
def FnExactMatrixOfWrongFalsely : Prop := fnExactMatrixOfRow.holds Try.pinned (OpenSpec.ofChange fnExactMatrixOfWrong)

/-- 'laws.FnExactAngleTurns': WHATEVER THE INPUT: true; the input reads as it did. -/
def fnExactAngleTurnsSpec : ChangeSpec := { name := "fnExactAngleTurns", fn := fun _ => fun
  | [d1, d2] => { results := [.lit (.bool true)], args := [d1, d2] }
  | _ => none }
def fnExactAngleTurnsRow : OpenClaim := { program := "yteefiihliepbgac", sum := "89a22b92be5dc25d1e6291eefbbc699209c7de272a3814246e16d625c9cd7218", func := "loop.example/g01180/laws.FnExactAngleTurns", spec := "fnExactAngleTurns", inPlace := ["math.Float64frombits", "math.Float64bits", "math.sqrt"], apart := false }
def FnExactAngleTurnsSaid : Prop := fnExactAngleTurnsRow.holds Try.pinned (OpenSpec.ofChange fnExactAngleTurnsSpec)

/-- ITS FALSE NEIGHBOUR: 'it returns false'. Refute it at one input. -/
def fnExactAngleTurnsWrong : ChangeSpec := { name := "fnExactAngleTurns", fn := fun _ => fun
  | [d1, d2] => { results := [.lit (.bool false)], args := [d1, d2] }
  | _ => none }
def FnExactAngleTurnsWrongFalsely : Prop := fnExactAngleTurnsRow.holds Try.pinned (OpenSpec.ofChange fnExactAngleTurnsWrong)

/- THE SECOND FORM. 'bulk': how many values and letters a reading holds, each counted each time it is reached (what is shared counts as often as it is met; a slice's spare places count too). A statement '..UptoSaid' is the law's where the arguments, and the package variables that the reading takes, are together of bulk at most 1048576: NARROWER than '..Said'. Prove '..Said' where nothing that the law and all that it calls make is longer than what came in: it says more and counts as full. Else prove '..UptoSaid'. A law counts once. -/
mutual
def uptoBulk {H : Type} : DataW H → Nat
  | .lit (.string bytes) => bytes.length + 1
  | .lit _ => 1
  | .nil => 1
  | .ptr d => uptoBulk d + 1
  | .slice elems spare => uptoBulkAll elems + uptoBulkAll spare + 1
  | .agg parts => uptoBulkAll parts + 1
  | .iface _ d => uptoBulk d + 1
  | .map entries => uptoBulkEntries entries + 1
  | .held _ => 1
def uptoBulkAll {H : Type} : List (DataW H) → Nat
  | [] => 0
  | d :: r => uptoBulk d + uptoBulkAll r
def uptoBulkEntries {H : Type} : List (Lit × DataW H) → Nat
  | [] => 0
  | x :: r => uptoBulkEntry x + uptoBulkEntries r
def uptoBulkEntry {H : Type} : Lit × DataW H → Nat
  | (.string bytes, d) => bytes.length + uptoBulk d + 1
  | (_, d) => uptoBulk d + 1
 end
def uptoSmall : (H : Type) → List (DataW H) → Bool := fun _ ds => decide (uptoBulkAll ds ≤ 1048576)
def OpenSpec.upto (s : _root_.Go.ChangeSpec) : _root_.Go.OpenSpec := { _root_.Go.OpenSpec.ofChange s with cond := some uptoSmall }

/-- 'laws.FnExactRootNumber', WHERE WHAT IT READS IS OF BULK AT MOST 1048576: true; the input reads as it did. -/
def fnExactRootNumberUptoRow : OpenClaim := { program := "yteefiihliepbgac", sum := "89a22b92be5dc25d1e6291eefbbc699209c7de272a3814246e16d625c9cd7218", func := "loop.example/g01180/laws.FnExactRootNumber", spec := "fnExactRootNumber", inPlace := ["math.sqrt"], apart := false, narrowed := true }
def FnExactRootNumberUptoSaid : Prop := fnExactRootNumberUptoRow.holds Try.pinned (OpenSpec.upto fnExactRootNumberSpec)

/-- 'laws.FnExactLongOf', WHERE WHAT IT READS IS OF BULK AT MOST 1048576: true; the input reads as it did. -/
def fnExactLongOfUptoRow : OpenClaim := { program := "yteefiihliepbgac", sum := "89a22b92be5dc25d1e6291eefbbc699209c7de272a3814246e16d625c9cd7218", func := "loop.example/g01180/laws.FnExactLongOf", spec := "fnExactLongOf", inPlace := ["math.sqrt"], apart := false, narrowed := true }
def FnExactLongOfUptoSaid : Prop := fnExactLongOfUptoRow.holds Try.pinned (OpenSpec.upto fnExactLongOfSpec)

/-- 'laws.FnExactNearTurn', WHERE WHAT IT READS IS OF BULK AT MOST 1048576: true; the input reads as it did. -/
def fnExactNearTurnUptoRow : OpenClaim := { program := "yteefiihliepbgac", sum := "89a22b92be5dc25d1e6291eefbbc699209c7de272a3814246e16d625c9cd7218", func := "loop.example/g01180/laws.FnExactNearTurn", spec := "fnExactNearTurn", inPlace := ["math.sqrt"], apart := false, narrowed := true }
def FnExactNearTurnUptoSaid : Prop := fnExactNearTurnUptoRow.holds Try.pinned (OpenSpec.upto fnExactNearTurnSpec)

/-- 'laws.FnExactCurveTurn', WHERE WHAT IT READS IS OF BULK AT MOST 1048576: true; the input reads as it did. -/
def fnExactCurveTurnUptoRow : OpenClaim := { program := "yteefiihliepbgac", sum := "89a22b92be5dc25d1e6291eefbbc699209c7de272a3814246e16d625c9cd7218", func := "loop.example/g01180/laws.FnExactCurveTurn", spec := "fnExactCurveTurn", inPlace := ["math.sqrt"], apart := false, narrowed := true }
def FnExactCurveTurnUptoSaid : Prop := fnExactCurveTurnUptoRow.holds Try.pinned (OpenSpec.upto fnExactCurveTurnSpec)

/-- 'laws.FnExactTurnBetween', WHERE WHAT IT READS IS OF BULK AT MOST 1048576: true; the input reads as it did. -/
def fnExactTurnBetweenUptoRow : OpenClaim := { program := "yteefiihliepbgac", sum := "89a22b92be5dc25d1e6291eefbbc699209c7de272a3814246e16d625c9cd7218", func := "loop.example/g01180/laws.FnExactTurnBetween", spec := "fnExactTurnBetween", inPlace := ["math.sqrt"], apart := false, narrowed := true }
def FnExactTurnBetweenUptoSaid : Prop := fnExactTurnBetweenUptoRow.holds Try.pinned (OpenSpec.upto fnExactTurnBetweenSpec)

/-- 'laws.FnExactSwingAndTwist', WHERE WHAT IT READS IS OF BULK AT MOST 1048576: true; the input reads as it did. -/
def fnExactSwingAndTwistUptoRow : OpenClaim := { program := "yteefiihliepbgac", sum := "89a22b92be5dc25d1e6291eefbbc699209c7de272a3814246e16d625c9cd7218", func := "loop.example/g01180/laws.FnExactSwingAndTwist", spec := "fnExactSwingAndTwist", inPlace := ["math.sqrt"], apart := false, narrowed := true }
def FnExactSwingAndTwistUptoSaid : Prop := fnExactSwingAndTwistUptoRow.holds Try.pinned (OpenSpec.upto fnExactSwingAndTwistSpec)

/-- 'laws.FnExactMatrixOf', WHERE WHAT IT READS IS OF BULK AT MOST 1048576: true; the input reads as it did. -/
def fnExactMatrixOfUptoRow : OpenClaim := { program := "yteefiihliepbgac", sum := "89a22b92be5dc25d1e6291eefbbc699209c7de272a3814246e16d625c9cd7218", func := "loop.example/g01180/laws.FnExactMatrixOf", spec := "fnExactMatrixOf", apart := false, narrowed := true }
def FnExactMatrixOfUptoSaid : Prop := fnExactMatrixOfUptoRow.holds Try.pinned (OpenSpec.upto fnExactMatrixOfSpec)

/-- 'laws.FnExactAngleTurns', WHERE WHAT IT READS IS OF BULK AT MOST 1048576: true; the input reads as it did. -/
def fnExactAngleTurnsUptoRow : OpenClaim := { program := "yteefiihliepbgac", sum := "89a22b92be5dc25d1e6291eefbbc699209c7de272a3814246e16d625c9cd7218", func := "loop.example/g01180/laws.FnExactAngleTurns", spec := "fnExactAngleTurns", inPlace := ["math.Float64frombits", "math.Float64bits", "math.sqrt"], apart := false, narrowed := true }
def FnExactAngleTurnsUptoSaid : Prop := fnExactAngleTurnsUptoRow.holds Try.pinned (OpenSpec.upto fnExactAngleTurnsSpec)

end Rows
end Go.Proofs.Yteefiihliepbgac
