/-
  No cell of these rows narrows 'for every input' (looked for: loops, veiled, ifaces, maps, wideKeys, modest, calm, conditions, laid).
  DERIVED. THE GIVEN ROWS OF THIS SEAT. 8 by the template 'for every input the law returns true; each argument reads behind the call as it read before'; 0 by the template 'total and deterministic' (their statements: YteefiihliepbgabTotals.lean).
  GIVEN WITH THE SEED: the statements are not yours to turn. If you find one false, say at which input.
  Laid BY PROGRAM, IN A SANDBOX (cutbox-rows.mjs): the forced cells as the released guide's own fill.sh prints them over the translation bdd9d2ad46b6d116… (all of the seat's roots in one cut). By AI agents, Wed Nov 11 2026. No macro, syntax, notation, axiom, sorry.
-/
import Derived.Test.YteefiihliepbgabChecked
import GoSem.Claim
import GoSem.ClaimJoined
import GoSem.ClaimMapViews
import Derived.JoinedTies
import Derived.KernelRfl
namespace Go.Proofs.Yteefiihliepbgab
/- THE CELL 'sum', in the pinned program and in every row, IS THE sha256 OF THE DUMP (.gsa) THAT YteefiihliepbgabProg.lean LOADS. Nothing in Lean hashes anything: it is a label: what it is worth is what the hold of that sum in a sandbox is worth. -/
noncomputable def Try.pinned : Pinned := { name := "yteefiihliepbgab", sum := "bdd9d2ad46b6d116037b1acae2985d44968c5a5667ef08f767df87e5d7e3cb3b", checked := Try.checked }
namespace Rows
def none {H : Type} : Left H := { results := [], args := [] }

/-- 'laws.FnExactInnerOfTurns': WHATEVER THE INPUT: true; the input reads as it did. -/
def fnExactInnerOfTurnsSpec : ChangeSpec := { name := "fnExactInnerOfTurns", fn := fun _ => fun
  | [d1, d2] => { results := [.lit (.bool true)], args := [d1, d2] }
  | _ => none }
def fnExactInnerOfTurnsRow : OpenClaim := { program := "yteefiihliepbgab", sum := "bdd9d2ad46b6d116037b1acae2985d44968c5a5667ef08f767df87e5d7e3cb3b", func := "loop.example/g01180/laws.FnExactInnerOfTurns", spec := "fnExactInnerOfTurns", apart := false }
def FnExactInnerOfTurnsSaid : Prop := fnExactInnerOfTurnsRow.holds Try.pinned (OpenSpec.ofChange fnExactInnerOfTurnsSpec)

/-- ITS FALSE NEIGHBOUR: 'it returns false'. Refute it at one input. -/
def fnExactInnerOfTurnsWrong : ChangeSpec := { name := "fnExactInnerOfTurns", fn := fun _ => fun
  | [d1, d2] => { results := [.lit (.bool false)], args := [d1, d2] }
  | _ => none }
def FnExactInnerOfTurnsWrongFalsely : Prop := fnExactInnerOfTurnsRow.holds Try.pinned (OpenSpec.ofChange fnExactInnerOfTurnsWrong)

/-- 'laws.FnExactNoTurn': WHATEVER THE INPUT: true; the input reads as it did. -/
def fnExactNoTurnSpec : ChangeSpec := { name := "fnExactNoTurn", fn := fun _ => fun
  | [] => { results := [.lit (.bool true)], args := [] }
  | _ => none }
def fnExactNoTurnRow : OpenClaim := { program := "yteefiihliepbgab", sum := "bdd9d2ad46b6d116037b1acae2985d44968c5a5667ef08f767df87e5d7e3cb3b", func := "loop.example/g01180/laws.FnExactNoTurn", spec := "fnExactNoTurn", apart := false }
def FnExactNoTurnSaid : Prop := fnExactNoTurnRow.holds Try.pinned (OpenSpec.ofChange fnExactNoTurnSpec)

/-- ITS FALSE NEIGHBOUR: 'it returns false'. Refute it at one input. -/
def fnExactNoTurnWrong : ChangeSpec := { name := "fnExactNoTurn", fn := fun _ => fun
  | [] => { results := [.lit (.bool false)], args := [] }
  | _ => none }
def FnExactNoTurnWrongFalsely : Prop := fnExactNoTurnRow.holds Try.pinned (OpenSpec.ofChange fnExactNoTurnWrong)

/-- 'laws.FnExactSameTurn': WHATEVER THE INPUT: true; the input reads as it did. -/
def fnExactSameTurnSpec : ChangeSpec := { name := "fnExactSameTurn", fn := fun _ => fun
  | [d1, d2] => { results := [.lit (.bool true)], args := [d1, d2] }
  | _ => none }
def fnExactSameTurnRow : OpenClaim := { program := "yteefiihliepbgab", sum := "bdd9d2ad46b6d116037b1acae2985d44968c5a5667ef08f767df87e5d7e3cb3b", func := "loop.example/g01180/laws.FnExactSameTurn", spec := "fnExactSameTurn", inPlace := ["math.Float32bits", "math.Float64bits"], apart := false }
def FnExactSameTurnSaid : Prop := fnExactSameTurnRow.holds Try.pinned (OpenSpec.ofChange fnExactSameTurnSpec)

/-- ITS FALSE NEIGHBOUR: 'it returns false'. Refute it at one input. -/
def fnExactSameTurnWrong : ChangeSpec := { name := "fnExactSameTurn", fn := fun _ => fun
  | [d1, d2] => { results := [.lit (.bool false)], args := [d1, d2] }
  | _ => none }
def FnExactSameTurnWrongFalsely : Prop := fnExactSameTurnRow.holds Try.pinned (OpenSpec.ofChange fnExactSameTurnWrong)

/-- 'laws.FnExactInverseOf': WHATEVER THE INPUT: true; the input reads as it did. -/
def fnExactInverseOfSpec : ChangeSpec := { name := "fnExactInverseOf", fn := fun _ => fun
  | [d] => { results := [.lit (.bool true)], args := [d] }
  | _ => none }
def fnExactInverseOfRow : OpenClaim := { program := "yteefiihliepbgab", sum := "bdd9d2ad46b6d116037b1acae2985d44968c5a5667ef08f767df87e5d7e3cb3b", func := "loop.example/g01180/laws.FnExactInverseOf", spec := "fnExactInverseOf", apart := false }
def FnExactInverseOfSaid : Prop := fnExactInverseOfRow.holds Try.pinned (OpenSpec.ofChange fnExactInverseOfSpec)

/-- ITS FALSE NEIGHBOUR: 'it returns false'. Refute it at one input. -/
def fnExactInverseOfWrong : ChangeSpec := { name := "fnExactInverseOf", fn := fun _ => fun
  | [d] => { results := [.lit (.bool false)], args := [d] }
  | _ => none }
def FnExactInverseOfWrongFalsely : Prop := fnExactInverseOfRow.holds Try.pinned (OpenSpec.ofChange fnExactInverseOfWrong)

/-- 'laws.FnExactMulTurns': WHATEVER THE INPUT: true; the input reads as it did. -/
def fnExactMulTurnsSpec : ChangeSpec := { name := "fnExactMulTurns", fn := fun _ => fun
  | [d1, d2] => { results := [.lit (.bool true)], args := [d1, d2] }
  | _ => none }
def fnExactMulTurnsRow : OpenClaim := { program := "yteefiihliepbgab", sum := "bdd9d2ad46b6d116037b1acae2985d44968c5a5667ef08f767df87e5d7e3cb3b", func := "loop.example/g01180/laws.FnExactMulTurns", spec := "fnExactMulTurns", apart := false }
def FnExactMulTurnsSaid : Prop := fnExactMulTurnsRow.holds Try.pinned (OpenSpec.ofChange fnExactMulTurnsSpec)

/-- ITS FALSE NEIGHBOUR: 'it returns false'. Refute it at one input. -/
def fnExactMulTurnsWrong : ChangeSpec := { name := "fnExactMulTurns", fn := fun _ => fun
  | [d1, d2] => { results := [.lit (.bool false)], args := [d1, d2] }
  | _ => none }
def FnExactMulTurnsWrongFalsely : Prop := fnExactMulTurnsRow.holds Try.pinned (OpenSpec.ofChange fnExactMulTurnsWrong)

/-- 'laws.FnExactMendTurn': WHATEVER THE INPUT: true; the input reads as it did. -/
def fnExactMendTurnSpec : ChangeSpec := { name := "fnExactMendTurn", fn := fun _ => fun
  | [d] => { results := [.lit (.bool true)], args := [d] }
  | _ => none }
def fnExactMendTurnRow : OpenClaim := { program := "yteefiihliepbgab", sum := "bdd9d2ad46b6d116037b1acae2985d44968c5a5667ef08f767df87e5d7e3cb3b", func := "loop.example/g01180/laws.FnExactMendTurn", spec := "fnExactMendTurn", inPlace := ["math.sqrt"], apart := false }
def FnExactMendTurnSaid : Prop := fnExactMendTurnRow.holds Try.pinned (OpenSpec.ofChange fnExactMendTurnSpec)

/-- ITS FALSE NEIGHBOUR: 'it returns false'. Refute it at one input. -/
def fnExactMendTurnWrong : ChangeSpec := { name := "fnExactMendTurn", fn := fun _ => fun
  | [d] => { results := [.lit (.bool false)], args := [d] }
  | _ => none }
def FnExactMendTurnWrongFalsely : Prop := fnExactMendTurnRow.holds Try.pinned (OpenSpec.ofChange fnExactMendTurnWrong)

/-- 'laws.FnExactLengthOfTurn': WHATEVER THE INPUT: true; the input reads as it did. -/
def fnExactLengthOfTurnSpec : ChangeSpec := { name := "fnExactLengthOfTurn", fn := fun _ => fun
  | [d] => { results := [.lit (.bool true)], args := [d] }
  | _ => none }
def fnExactLengthOfTurnRow : OpenClaim := { program := "yteefiihliepbgab", sum := "bdd9d2ad46b6d116037b1acae2985d44968c5a5667ef08f767df87e5d7e3cb3b", func := "loop.example/g01180/laws.FnExactLengthOfTurn", spec := "fnExactLengthOfTurn", inPlace := ["math.sqrt"], apart := false }
def FnExactLengthOfTurnSaid : Prop := fnExactLengthOfTurnRow.holds Try.pinned (OpenSpec.ofChange fnExactLengthOfTurnSpec)

/-- ITS FALSE NEIGHBOUR: 'it returns false'. Refute it at one input. -/
def fnExactLengthOfTurnWrong : ChangeSpec := { name := "fnExactLengthOfTurn", fn := fun _ => fun
  | [d] => { results := [.lit (.bool false)], args := [d] }
  | _ => none }
def FnExactLengthOfTurnWrongFalsely : Prop := fnExactLengthOfTurnRow.holds Try.pinned (OpenSpec.ofChange fnExactLengthOfTurnWrong)

/-- 'laws.FnExactAxisOf': WHATEVER THE INPUT: true; the input reads as it did. -/
def fnExactAxisOfSpec : ChangeSpec := { name := "fnExactAxisOf", fn := fun _ => fun
  | [d] => { results := [.lit (.bool true)], args := [d] }
  | _ => none }
def fnExactAxisOfRow : OpenClaim := { program := "yteefiihliepbgab", sum := "bdd9d2ad46b6d116037b1acae2985d44968c5a5667ef08f767df87e5d7e3cb3b", func := "loop.example/g01180/laws.FnExactAxisOf", spec := "fnExactAxisOf", inPlace := ["math.sqrt"], apart := false }
def FnExactAxisOfSaid : Prop := fnExactAxisOfRow.holds Try.pinned (OpenSpec.ofChange fnExactAxisOfSpec)

/-- ITS FALSE NEIGHBOUR: 'it returns false'. Refute it at one input. -/
def fnExactAxisOfWrong : ChangeSpec := { name := "fnExactAxisOf", fn := fun _ => fun
  | [d] => { results := [.lit (.bool false)], args := [d] }
  | _ => none }
def FnExactAxisOfWrongFalsely : Prop := fnExactAxisOfRow.holds Try.pinned (OpenSpec.ofChange fnExactAxisOfWrong)

/- THE SECOND FORM. 'bulk': how many values and letters a reading holds, each counted each time it is reached (what is shared counts as often as it is met; a slice's spare places count too). A statement '..UptoSaid' is the law's where the arguments, and the package variables that the reading takes, are together of bulk at most 1048576: NARROWER than '..Said'. Prove '..Said' where nothing that the law and all that it calls make is longer than what came in: it says more and counts as full. Else prove '..UptoSaid'. A law counts once. -/
mutual
def uptoBulk {H : Type} : DataW H → Nat
  | .lit (.string bytes) => bytes.length + 1
  | .lit _ => 1
  | .nil => 1
  | .ptr d => uptoBulk d + 1
  | .slice elems spare => uptoBulkAll elems + uptoBulkAll spare + 1
  | .agg parts => uptoBulkAll parts + 1
  | .iface _ d => uptoBulk d + 1
  | .map entries => uptoBulkEntries entries + 1
  | .held _ => 1
def uptoBulkAll {H : Type} : List (DataW H) → Nat
  | [] => 0
  | d :: r => uptoBulk d + uptoBulkAll r
def uptoBulkEntries {H : Type} : List (Lit × DataW H) → Nat
  | [] => 0
  | x :: r => uptoBulkEntry x + uptoBulkEntries r
def uptoBulkEntry {H : Type} : Lit × DataW H → Nat
  | (.string bytes, d) => bytes.length + uptoBulk d + 1
  | (_, d) => uptoBulk d + 1
 end
def uptoSmall : (H : Type) → List (DataW H) → Bool := fun _ ds => decide (uptoBulkAll ds ≤ 1048576)
def OpenSpec.upto (s : _root_.Go.ChangeSpec) : _root_.Go.OpenSpec := { _root_.Go.OpenSpec.ofChange s with cond := some uptoSmall }

/-- 'laws.FnExactInnerOfTurns', WHERE WHAT IT READS IS OF BULK AT MOST 1048576: true; the input reads as it did. -/
def fnExactInnerOfTurnsUptoRow : OpenClaim := { program := "yteefiihliepbgab", sum := "bdd9d2ad46b6d116037b1acae2985d44968c5a5667ef08f767df87e5d7e3cb3b", func := "loop.example/g01180/laws.FnExactInnerOfTurns", spec := "fnExactInnerOfTurns", apart := false, narrowed := true }
def FnExactInnerOfTurnsUptoSaid : Prop := fnExactInnerOfTurnsUptoRow.holds Try.pinned (OpenSpec.upto fnExactInnerOfTurnsSpec)

/-- 'laws.FnExactNoTurn', WHERE WHAT IT READS IS OF BULK AT MOST 1048576: true; the input reads as it did. -/
def fnExactNoTurnUptoRow : OpenClaim := { program := "yteefiihliepbgab", sum := "bdd9d2ad46b6d116037b1acae2985d44968c5a5667ef08f767df87e5d7e3cb3b", func := "loop.example/g01180/laws.FnExactNoTurn", spec := "fnExactNoTurn", apart := false, narrowed := true }
def FnExactNoTurnUptoSaid : Prop := fnExactNoTurnUptoRow.holds Try.pinned (OpenSpec.upto fnExactNoTurnSpec)

/-- 'laws.FnExactSameTurn', WHERE WHAT IT READS IS OF BULK AT MOST 1048576: true; the input reads as it did. -/
def fnExactSameTurnUptoRow : OpenClaim := { program := "yteefiihliepbgab", sum := "bdd9d2ad46b6d116037b1acae2985d44968c5a5667ef08f767df87e5d7e3cb3b", func := "loop.example/g01180/laws.FnExactSameTurn", spec := "fnExactSameTurn", inPlace := ["math.Float32bits", "math.Float64bits"], apart := false, narrowed := true }
def FnExactSameTurnUptoSaid : Prop := fnExactSameTurnUptoRow.holds Try.pinned (OpenSpec.upto fnExactSameTurnSpec)

/-- 'laws.FnExactInverseOf', WHERE WHAT IT READS IS OF BULK AT MOST 1048576: true; the input reads as it did. -/
def fnExactInverseOfUptoRow : OpenClaim := { program := "yteefiihliepbgab", sum := "bdd9d2ad46b6d116037b1acae2985d44968c5a5667ef08f767df87e5d7e3cb3b", func := "loop.example/g01180/laws.FnExactInverseOf", spec := "fnExactInverseOf", apart := false, narrowed := true }
def FnExactInverseOfUptoSaid : Prop := fnExactInverseOfUptoRow.holds Try.pinned (OpenSpec.upto fnExactInverseOfSpec)

/-- 'laws.FnExactMulTurns', WHERE WHAT IT READS IS OF BULK AT MOST 1048576: true; the input reads as it did. -/
def fnExactMulTurnsUptoRow : OpenClaim := { program := "yteefiihliepbgab", sum := "bdd9d2ad46b6d116037b1acae2985d44968c5a5667ef08f767df87e5d7e3cb3b", func := "loop.example/g01180/laws.FnExactMulTurns", spec := "fnExactMulTurns", apart := false, narrowed := true }
def FnExactMulTurnsUptoSaid : Prop := fnExactMulTurnsUptoRow.holds Try.pinned (OpenSpec.upto fnExactMulTurnsSpec)

/-- 'laws.FnExactMendTurn', WHERE WHAT IT READS IS OF BULK AT MOST 1048576: true; the input reads as it did. -/
def fnExactMendTurnUptoRow : OpenClaim := { program := "yteefiihliepbgab", sum := "bdd9d2ad46b6d116037b1acae2985d44968c5a5667ef08f767df87e5d7e3cb3b", func := "loop.example/g01180/laws.FnExactMendTurn", spec := "fnExactMendTurn", inPlace := ["math.sqrt"], apart := false, narrowed := true }
def FnExactMendTurnUptoSaid : Prop := fnExactMendTurnUptoRow.holds Try.pinned (OpenSpec.upto fnExactMendTurnSpec)

/-- 'laws.FnExactLengthOfTurn', WHERE WHAT IT READS IS OF BULK AT MOST 1048576: true; the input reads as it did. -/
def fnExactLengthOfTurnUptoRow : OpenClaim := { program := "yteefiihliepbgab", sum := "bdd9d2ad46b6d116037b1acae2985d44968c5a5667ef08f767df87e5d7e3cb3b", func := "loop.example/g01180/laws.FnExactLengthOfTurn", spec := "fnExactLengthOfTurn", inPlace := ["math.sqrt"], apart := false, narrowed := true }
def FnExactLengthOfTurnUptoSaid : Prop := fnExactLengthOfTurnUptoRow.holds Try.pinned (OpenSpec.upto fnExactLengthOfTurnSpec)

/-- 'laws.FnExactAxisOf', WHERE WHAT IT READS IS OF BULK AT MOST 1048576: true; the input reads as it did. -/
def fnExactAxisOfUptoRow : OpenClaim := { program := "yteefiihliepbgab", sum := "bdd9d2ad46b6d116037b1acae2985d44968c5a5667ef08f767df87e5d7e3cb3b", func := "loop.example/g01180/laws.FnExactAxisOf", spec := "fnExactAxisOf", inPlace := ["math.sqrt"], apart := false, narrowed := true }
def FnExactAxisOfUptoSaid : Prop := fnExactAxisOfUptoRow.holds Try.pinned (OpenSpec.upto fnExactAxisOfSpec)

end Rows
end Go.Proofs.Yteefiihliepbgab
