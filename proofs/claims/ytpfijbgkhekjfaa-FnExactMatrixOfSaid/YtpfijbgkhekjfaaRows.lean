/-
  No cell of these rows narrows 'for every input' (looked for: loops, veiled, ifaces, maps, wideKeys, modest, calm, conditions, laid).
  DERIVED. THE GIVEN ROWS OF THIS SEAT. 6 by the template 'for every input the law returns true; each argument reads behind the call as it read before'; 0 by the template 'total and deterministic' (their statements: YtpfijbgkhekjfaaTotals.lean).
  GIVEN WITH THE SEED: the statements are not yours to turn. If you find one false, say at which input.
  Laid BY PROGRAM, IN A SANDBOX (cutbox-rows.mjs): the forced cells as the released guide's own fill.sh prints them over the translation 76fc3cc27eeaaa8c… (all of the seat's roots in one cut). By AI agents, Wed Nov 11 2026. No macro, syntax, notation, axiom, sorry.
-/
import Derived.Test.YtpfijbgkhekjfaaChecked
import GoSem.Claim
import GoSem.ClaimJoined
import GoSem.ClaimMapViews
import Derived.JoinedTies
import Derived.KernelRfl
namespace Go.Proofs.Ytpfijbgkhekjfaa
/- THE CELL 'sum', in the pinned program and in every row, IS THE sha256 OF THE DUMP (.gsa) THAT YtpfijbgkhekjfaaProg.lean LOADS. Nothing in Lean hashes anything: it is a label: what it is worth is what the hold of that sum in a sandbox is worth. -/
noncomputable def Try.pinned : Pinned := { name := "ytpfijbgkhekjfaa", sum := "76fc3cc27eeaaa8cf751b205f16fa99ab2f4733e99972a9e8bf05dc74cfa1369", checked := Try.checked }
namespace Rows
def none {H : Type} : Left H := { results := [], args := [] }

/-- 'laws.FnExactCurveTurn': WHATEVER THE INPUT: true; the input reads as it did. -/
def fnExactCurveTurnSpec : ChangeSpec := { name := "fnExactCurveTurn", fn := fun _ => fun
  | [d1, d2, d3, d4, d5] => { results := [.lit (.bool true)], args := [d1, d2, d3, d4, d5] }
  | _ => none }
def fnExactCurveTurnRow : OpenClaim := { program := "ytpfijbgkhekjfaa", sum := "76fc3cc27eeaaa8cf751b205f16fa99ab2f4733e99972a9e8bf05dc74cfa1369", func := "loop.example/g01180/laws.FnExactCurveTurn", spec := "fnExactCurveTurn", inPlace := ["math.sqrt"], apart := false }
def FnExactCurveTurnSaid : Prop := fnExactCurveTurnRow.holds Try.pinned (OpenSpec.ofChange fnExactCurveTurnSpec)

/-- ITS FALSE NEIGHBOUR: 'it returns false'. Refute it at one input. -/
def fnExactCurveTurnWrong : ChangeSpec := { name := "fnExactCurveTurn", fn := fun _ => fun
  | [d1, d2, d3, d4, d5] => { results := [.lit (.bool false)], args := [d1, d2, d3, d4, d5] }
  | _ => none }
def FnExactCurveTurnWrongFalsely : Prop := fnExactCurveTurnRow.holds Try.pinned (OpenSpec.ofChange fnExactCurveTurnWrong)

/-- 'laws.FnExactSwingAndTwist': WHATEVER THE INPUT: true; the input reads as it did. -/
def fnExactSwingAndTwistSpec : ChangeSpec := { name := "fnExactSwingAndTwist", fn := fun _ => fun
  | [d1, d2] => { results := [.lit (.bool true)], args := [d1, d2] }
  | _ => none }
def fnExactSwingAndTwistRow : OpenClaim := { program := "ytpfijbgkhekjfaa", sum := "76fc3cc27eeaaa8cf751b205f16fa99ab2f4733e99972a9e8bf05dc74cfa1369", func := "loop.example/g01180/laws.FnExactSwingAndTwist", spec := "fnExactSwingAndTwist", inPlace := ["math.sqrt"], apart := false }
def FnExactSwingAndTwistSaid : Prop := fnExactSwingAndTwistRow.holds Try.pinned (OpenSpec.ofChange fnExactSwingAndTwistSpec)

/-- ITS FALSE NEIGHBOUR: 'it returns false'. Refute it at one input. -/
def fnExactSwingAndTwistWrong : ChangeSpec := { name := "fnExactSwingAndTwist", fn := fun _ => fun
  | [d1, d2] => { results := [.lit (.bool false)], args := [d1, d2] }
  | _ => none }
def FnExactSwingAndTwistWrongFalsely : Prop := fnExactSwingAndTwistRow.holds Try.pinned (OpenSpec.ofChange fnExactSwingAndTwistWrong)

/-- 'laws.FnExactMatrixOf': WHATEVER THE INPUT: true; the input reads as it did. -/
def fnExactMatrixOfSpec : ChangeSpec := { name := "fnExactMatrixOf", fn := fun _ => fun
  | [d] => { results := [.lit (.bool true)], args := [d] }
  | _ => none }
def fnExactMatrixOfRow : OpenClaim := { program := "ytpfijbgkhekjfaa", sum := "76fc3cc27eeaaa8cf751b205f16fa99ab2f4733e99972a9e8bf05dc74cfa1369", func := "loop.example/g01180/laws.FnExactMatrixOf", spec := "fnExactMatrixOf", apart := false }
def FnExactMatrixOfSaid : Prop := fnExactMatrixOfRow.holds Try.pinned (OpenSpec.ofChange fnExactMatrixOfSpec)

/-- ITS FALSE NEIGHBOUR: 'it returns false'. Refute it at one input. -/
def fnExactMatrixOfWrong : ChangeSpec := { name := "fnExactMatrixOf", fn := fun _ => fun
  | [d] => { results := [.lit (.bool false)], args := [d] }
  | _ => none }
def FnExactMatrixOfWrongFalsely : Prop := fnExactMatrixOfRow.holds Try.pinned (OpenSpec.ofChange fnExactMatrixOfWrong)

/-- 'laws.FnExactAngleTurns': WHATEVER THE INPUT: true; the input reads as it did. -/
def fnExactAngleTurnsSpec : ChangeSpec := { name := "fnExactAngleTurns", fn := fun _ => fun
  | [d1, d2] => { results := [.lit (.bool true)], args := [d1, d2] }
  | _ => none }
def fnExactAngleTurnsRow : OpenClaim := { program := "ytpfijbgkhekjfaa", sum := "76fc3cc27eeaaa8cf751b205f16fa99ab2f4733e99972a9e8bf05dc74cfa1369", func := "loop.example/g01180/laws.FnExactAngleTurns", spec := "fnExactAngleTurns", inPlace := ["math.Float64frombits", "math.Float64bits", "math.sqrt"], apart := false }
def FnExactAngleTurnsSaid : Prop := fnExactAngleTurnsRow.holds Try.pinned (OpenSpec.ofChange fnExactAngleTurnsSpec)

/-- ITS FALSE NEIGHBOUR: 'it returns false'. Refute it at one input. -/
def fnExactAngleTurnsWrong : ChangeSpec := { name := "fnExactAngleTurns", fn := fun _ => fun
  | [d1, d2] => { results := [.lit (.bool false)], args := [d1, d2] }
  | _ => none }
def FnExactAngleTurnsWrongFalsely : Prop := fnExactAngleTurnsRow.holds Try.pinned (OpenSpec.ofChange fnExactAngleTurnsWrong)

/-- 'laws.FnExactAngleOf': WHATEVER THE INPUT: true; the input reads as it did. -/
def fnExactAngleOfSpec : ChangeSpec := { name := "fnExactAngleOf", fn := fun _ => fun
  | [d] => { results := [.lit (.bool true)], args := [d] }
  | _ => none }
def fnExactAngleOfRow : OpenClaim := { program := "ytpfijbgkhekjfaa", sum := "76fc3cc27eeaaa8cf751b205f16fa99ab2f4733e99972a9e8bf05dc74cfa1369", func := "loop.example/g01180/laws.FnExactAngleOf", spec := "fnExactAngleOf", inPlace := ["math.sqrt", "math.Float32bits", "math.Float32frombits", "math.Float64frombits", "math.Float64bits"], apart := false }
def FnExactAngleOfSaid : Prop := fnExactAngleOfRow.holds Try.pinned (OpenSpec.ofChange fnExactAngleOfSpec)

/-- ITS FALSE NEIGHBOUR: 'it returns false'. Refute it at one input. -/
def fnExactAngleOfWrong : ChangeSpec := { name := "fnExactAngleOf", fn := fun _ => fun
  | [d] => { results := [.lit (.bool false)], args := [d] }
  | _ => none }
def FnExactAngleOfWrongFalsely : Prop := fnExactAngleOfRow.holds Try.pinned (OpenSpec.ofChange fnExactAngleOfWrong)

/-- 'laws.FnExactApartTurns': WHATEVER THE INPUT: true; the input reads as it did. -/
def fnExactApartTurnsSpec : ChangeSpec := { name := "fnExactApartTurns", fn := fun _ => fun
  | [d1, d2] => { results := [.lit (.bool true)], args := [d1, d2] }
  | _ => none }
def fnExactApartTurnsRow : OpenClaim := { program := "ytpfijbgkhekjfaa", sum := "76fc3cc27eeaaa8cf751b205f16fa99ab2f4733e99972a9e8bf05dc74cfa1369", func := "loop.example/g01180/laws.FnExactApartTurns", spec := "fnExactApartTurns", inPlace := ["math.sqrt", "math.Float32bits", "math.Float32frombits", "math.Float64frombits", "math.Float64bits"], apart := false }
def FnExactApartTurnsSaid : Prop := fnExactApartTurnsRow.holds Try.pinned (OpenSpec.ofChange fnExactApartTurnsSpec)

/-- ITS FALSE NEIGHBOUR: 'it returns false'. Refute it at one input. -/
def fnExactApartTurnsWrong : ChangeSpec := { name := "fnExactApartTurns", fn := fun _ => fun
  | [d1, d2] => { results := [.lit (.bool false)], args := [d1, d2] }
  | _ => none }
def FnExactApartTurnsWrongFalsely : Prop := fnExactApartTurnsRow.holds Try.pinned (OpenSpec.ofChange fnExactApartTurnsWrong)

/- THE SECOND FORM. 'bulk': how many values and letters a reading holds, each counted each time it is reached (what is shared counts as often as it is met; a slice's spare places count too). A statement '..UptoSaid' is the law's where the arguments, and the package variables that the reading takes, are together of bulk at most 1048576: NARROWER than '..Said'. Prove '..Said' where nothing that the law and all that it calls make is longer than what came in: it says more and counts as full. Else prove '..UptoSaid'. A law counts once. -/
mutual
def uptoBulk {H : Type} : DataW H → Nat
  | .lit (.string bytes) => bytes.length + 1
  | .lit _ => 1
  | .nil => 1
  | .ptr d => uptoBulk d + 1
  | .slice elems spare => uptoBulkAll elems + uptoBulkAll spare + 1
  | .agg parts => uptoBulkAll parts + 1
  | .iface _ d => uptoBulk d + 1
  | .map entries => uptoBulkEntries entries + 1
  | .held _ => 1
def uptoBulkAll {H : Type} : List (DataW H) → Nat
  | [] => 0
  | d :: r => uptoBulk d + uptoBulkAll r
def uptoBulkEntries {H : Type} : List (Lit × DataW H) → Nat
  | [] => 0
  | x :: r => uptoBulkEntry x + uptoBulkEntries r
def uptoBulkEntry {H : Type} : Lit × DataW H → Nat
  | (.string bytes, d) => bytes.length + uptoBulk d + 1
  | (_, d) => uptoBulk d + 1
 end
def uptoSmall : (H : Type) → List (DataW H) → Bool := fun _ ds => decide (uptoBulkAll ds ≤ 1048576)
def OpenSpec.upto (s : _root_.Go.ChangeSpec) : _root_.Go.OpenSpec := { _root_.Go.OpenSpec.ofChange s with cond := some uptoSmall }

/-- 'laws.FnExactCurveTurn', WHERE WHAT IT READS IS OF BULK AT MOST 1048576: true; the input reads as it did. -/
def fnExactCurveTurnUptoRow : OpenClaim := { program := "ytpfijbgkhekjfaa", sum := "76fc3cc27eeaaa8cf751b205f16fa99ab2f4733e99972a9e8bf05dc74cfa1369", func := "loop.example/g01180/laws.FnExactCurveTurn", spec := "fnExactCurveTurn", inPlace := ["math.sqrt"], apart := false, narrowed := true }
def FnExactCurveTurnUptoSaid : Prop := fnExactCurveTurnUptoRow.holds Try.pinned (OpenSpec.upto fnExactCurveTurnSpec)

/-- 'laws.FnExactSwingAndTwist', WHERE WHAT IT READS IS OF BULK AT MOST 1048576: true; the input reads as it did. -/
def fnExactSwingAndTwistUptoRow : OpenClaim := { program := "ytpfijbgkhekjfaa", sum := "76fc3cc27eeaaa8cf751b205f16fa99ab2f4733e99972a9e8bf05dc74cfa1369", func := "loop.example/g01180/laws.FnExactSwingAndTwist", spec := "fnExactSwingAndTwist", inPlace := ["math.sqrt"], apart := false, narrowed := true }
def FnExactSwingAndTwistUptoSaid : Prop := fnExactSwingAndTwistUptoRow.holds Try.pinned (OpenSpec.upto fnExactSwingAndTwistSpec)

/-- 'laws.FnExactMatrixOf', WHERE WHAT IT READS IS OF BULK AT MOST 1048576: true; the input reads as it did. -/
def fnExactMatrixOfUptoRow : OpenClaim := { program := "ytpfijbgkhekjfaa", sum := "76fc3cc27eeaaa8cf751b205f16fa99ab2f4733e99972a9e8bf05dc74cfa1369", func := "loop.example/g01180/laws.FnExactMatrixOf", spec := "fnExactMatrixOf", apart := false, narrowed := true }
def FnExactMatrixOfUptoSaid : Prop := fnExactMatrixOfUptoRow.holds Try.pinned (OpenSpec.upto fnExactMatrixOfSpec)

/-- 'laws.FnExactAngleTurns', WHERE WHAT IT READS IS OF BULK AT MOST 1048576: true; the input reads as it did. -/
def fnExactAngleTurnsUptoRow : OpenClaim := { program := "ytpfijbgkhekjfaa", sum := "76fc3cc27eeaaa8cf751b205f16fa99ab2f4733e99972a9e8bf05dc74cfa1369", func := "loop.example/g01180/laws.FnExactAngleTurns", spec := "fnExactAngleTurns", inPlace := ["math.Float64frombits", "math.Float64bits", "math.sqrt"], apart := false, narrowed := true }
def FnExactAngleTurnsUptoSaid : Prop := fnExactAngleTurnsUptoRow.holds Try.pinned (OpenSpec.upto fnExactAngleTurnsSpec)

/-- 'laws.FnExactAngleOf', WHERE WHAT IT READS IS OF BULK AT MOST 1048576: true; the input reads as it did. -/
def fnExactAngleOfUptoRow : OpenClaim := { program := "ytpfijbgkhekjfaa", sum := "76fc3cc27eeaaa8cf751b205f16fa99ab2f4733e99972a9e8bf05dc74cfa1369", func := "loop.example/g01180/laws.FnExactAngleOf", spec := "fnExactAngleOf", inPlace := ["math.sqrt", "math.Float32bits", "math.Float32frombits", "math.Float64frombits", "math.Float64bits"], apart := false, narrowed := true }
def FnExactAngleOfUptoSaid : Prop := fnExactAngleOfUptoRow.holds Try.pinned (OpenSpec.upto fnExactAngleOfSpec)

/-- 'laws.FnExactApartTurns', WHERE WHAT IT READS IS OF BULK AT MOST 1048576: true; the input reads as it did. -/
def fnExactApartTurnsUptoRow : OpenClaim := { program := "ytpfijbgkhekjfaa", sum := "76fc3cc27eeaaa8cf751b205f16fa99ab2f4733e99972a9e8bf05dc74cfa1369", func := "loop.example/g01180/laws.FnExactApartTurns", spec := "fnExactApartTurns", inPlace := ["math.sqrt", "math.Float32bits", "math.Float32frombits", "math.Float64frombits", "math.Float64bits"], apart := false, narrowed := true }
def FnExactApartTurnsUptoSaid : Prop := fnExactApartTurnsUptoRow.holds Try.pinned (OpenSpec.upto fnExactApartTurnsSpec)

end Rows
end Go.Proofs.Ytpfijbgkhekjfaa
