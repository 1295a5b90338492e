/-
  No cell of these rows narrows 'for every input' (looked for: loops, veiled, ifaces, maps, wideKeys, modest, calm, conditions, laid).
  DERIVED. THE GIVEN ROWS OF THIS SEAT. 8 by the template 'for every input the law returns true; each argument reads behind the call as it read before'; 0 by the template 'total and deterministic' (their statements: YteefiihliepbgaaTotals.lean).
  GIVEN WITH THE SEED: the statements are not yours to turn. If you find one false, say at which input.
  Laid BY PROGRAM, IN A SANDBOX (cutbox-rows.mjs): the forced cells as the released guide's own fill.sh prints them over the translation bada80a77463645c… (all of the seat's roots in one cut). By AI agents, Wed Nov 11 2026. No macro, syntax, notation, axiom, sorry.
-/
import Derived.Test.YteefiihliepbgaaChecked
import GoSem.Claim
import GoSem.ClaimJoined
import GoSem.ClaimMapViews
import Derived.JoinedTies
import Derived.KernelRfl
namespace Go.Proofs.Yteefiihliepbgaa
/- THE CELL 'sum', in the pinned program and in every row, IS THE sha256 OF THE DUMP (.gsa) THAT YteefiihliepbgaaProg.lean LOADS. Nothing in Lean hashes anything: it is a label: what it is worth is what the hold of that sum in a sandbox is worth. -/
noncomputable def Try.pinned : Pinned := { name := "yteefiihliepbgaa", sum := "bada80a77463645cda5f0c4296715ca36a666a9e2554e4ba296fa47784acfb15", checked := Try.checked }
namespace Rows
def none {H : Type} : Left H := { results := [], args := [] }

/-- 'laws.FnExactInnerOf': WHATEVER THE INPUT: true; the input reads as it did. -/
def fnExactInnerOfSpec : ChangeSpec := { name := "fnExactInnerOf", fn := fun _ => fun
  | [d1, d2] => { results := [.lit (.bool true)], args := [d1, d2] }
  | _ => none }
def fnExactInnerOfRow : OpenClaim := { program := "yteefiihliepbgaa", sum := "bada80a77463645cda5f0c4296715ca36a666a9e2554e4ba296fa47784acfb15", func := "loop.example/g01180/laws.FnExactInnerOf", spec := "fnExactInnerOf", apart := false }
def FnExactInnerOfSaid : Prop := fnExactInnerOfRow.holds Try.pinned (OpenSpec.ofChange fnExactInnerOfSpec)

/-- ITS FALSE NEIGHBOUR: 'it returns false'. Refute it at one input. -/
def fnExactInnerOfWrong : ChangeSpec := { name := "fnExactInnerOf", fn := fun _ => fun
  | [d1, d2] => { results := [.lit (.bool false)], args := [d1, d2] }
  | _ => none }
def FnExactInnerOfWrongFalsely : Prop := fnExactInnerOfRow.holds Try.pinned (OpenSpec.ofChange fnExactInnerOfWrong)

/-- 'laws.FnExactAddVectors': WHATEVER THE INPUT: true; the input reads as it did. -/
def fnExactAddVectorsSpec : ChangeSpec := { name := "fnExactAddVectors", fn := fun _ => fun
  | [d1, d2] => { results := [.lit (.bool true)], args := [d1, d2] }
  | _ => none }
def fnExactAddVectorsRow : OpenClaim := { program := "yteefiihliepbgaa", sum := "bada80a77463645cda5f0c4296715ca36a666a9e2554e4ba296fa47784acfb15", func := "loop.example/g01180/laws.FnExactAddVectors", spec := "fnExactAddVectors", apart := false }
def FnExactAddVectorsSaid : Prop := fnExactAddVectorsRow.holds Try.pinned (OpenSpec.ofChange fnExactAddVectorsSpec)

/-- ITS FALSE NEIGHBOUR: 'it returns false'. Refute it at one input. -/
def fnExactAddVectorsWrong : ChangeSpec := { name := "fnExactAddVectors", fn := fun _ => fun
  | [d1, d2] => { results := [.lit (.bool false)], args := [d1, d2] }
  | _ => none }
def FnExactAddVectorsWrongFalsely : Prop := fnExactAddVectorsRow.holds Try.pinned (OpenSpec.ofChange fnExactAddVectorsWrong)

/-- 'laws.FnExactLessVectors': WHATEVER THE INPUT: true; the input reads as it did. -/
def fnExactLessVectorsSpec : ChangeSpec := { name := "fnExactLessVectors", fn := fun _ => fun
  | [d1, d2] => { results := [.lit (.bool true)], args := [d1, d2] }
  | _ => none }
def fnExactLessVectorsRow : OpenClaim := { program := "yteefiihliepbgaa", sum := "bada80a77463645cda5f0c4296715ca36a666a9e2554e4ba296fa47784acfb15", func := "loop.example/g01180/laws.FnExactLessVectors", spec := "fnExactLessVectors", apart := false }
def FnExactLessVectorsSaid : Prop := fnExactLessVectorsRow.holds Try.pinned (OpenSpec.ofChange fnExactLessVectorsSpec)

/-- ITS FALSE NEIGHBOUR: 'it returns false'. Refute it at one input. -/
def fnExactLessVectorsWrong : ChangeSpec := { name := "fnExactLessVectors", fn := fun _ => fun
  | [d1, d2] => { results := [.lit (.bool false)], args := [d1, d2] }
  | _ => none }
def FnExactLessVectorsWrongFalsely : Prop := fnExactLessVectorsRow.holds Try.pinned (OpenSpec.ofChange fnExactLessVectorsWrong)

/-- 'laws.FnExactScaleVector': WHATEVER THE INPUT: true; the input reads as it did. -/
def fnExactScaleVectorSpec : ChangeSpec := { name := "fnExactScaleVector", fn := fun _ => fun
  | [d1, d2] => { results := [.lit (.bool true)], args := [d1, d2] }
  | _ => none }
def fnExactScaleVectorRow : OpenClaim := { program := "yteefiihliepbgaa", sum := "bada80a77463645cda5f0c4296715ca36a666a9e2554e4ba296fa47784acfb15", func := "loop.example/g01180/laws.FnExactScaleVector", spec := "fnExactScaleVector", apart := false }
def FnExactScaleVectorSaid : Prop := fnExactScaleVectorRow.holds Try.pinned (OpenSpec.ofChange fnExactScaleVectorSpec)

/-- ITS FALSE NEIGHBOUR: 'it returns false'. Refute it at one input. -/
def fnExactScaleVectorWrong : ChangeSpec := { name := "fnExactScaleVector", fn := fun _ => fun
  | [d1, d2] => { results := [.lit (.bool false)], args := [d1, d2] }
  | _ => none }
def FnExactScaleVectorWrongFalsely : Prop := fnExactScaleVectorRow.holds Try.pinned (OpenSpec.ofChange fnExactScaleVectorWrong)

/-- 'laws.FnExactCrossOf': WHATEVER THE INPUT: true; the input reads as it did. -/
def fnExactCrossOfSpec : ChangeSpec := { name := "fnExactCrossOf", fn := fun _ => fun
  | [d1, d2] => { results := [.lit (.bool true)], args := [d1, d2] }
  | _ => none }
def fnExactCrossOfRow : OpenClaim := { program := "yteefiihliepbgaa", sum := "bada80a77463645cda5f0c4296715ca36a666a9e2554e4ba296fa47784acfb15", func := "loop.example/g01180/laws.FnExactCrossOf", spec := "fnExactCrossOf", apart := false }
def FnExactCrossOfSaid : Prop := fnExactCrossOfRow.holds Try.pinned (OpenSpec.ofChange fnExactCrossOfSpec)

/-- ITS FALSE NEIGHBOUR: 'it returns false'. Refute it at one input. -/
def fnExactCrossOfWrong : ChangeSpec := { name := "fnExactCrossOf", fn := fun _ => fun
  | [d1, d2] => { results := [.lit (.bool false)], args := [d1, d2] }
  | _ => none }
def FnExactCrossOfWrongFalsely : Prop := fnExactCrossOfRow.holds Try.pinned (OpenSpec.ofChange fnExactCrossOfWrong)

/-- 'laws.FnExactBetweenVectors': WHATEVER THE INPUT: true; the input reads as it did. -/
def fnExactBetweenVectorsSpec : ChangeSpec := { name := "fnExactBetweenVectors", fn := fun _ => fun
  | [d1, d2, d3] => { results := [.lit (.bool true)], args := [d1, d2, d3] }
  | _ => none }
def fnExactBetweenVectorsRow : OpenClaim := { program := "yteefiihliepbgaa", sum := "bada80a77463645cda5f0c4296715ca36a666a9e2554e4ba296fa47784acfb15", func := "loop.example/g01180/laws.FnExactBetweenVectors", spec := "fnExactBetweenVectors", apart := false }
def FnExactBetweenVectorsSaid : Prop := fnExactBetweenVectorsRow.holds Try.pinned (OpenSpec.ofChange fnExactBetweenVectorsSpec)

/-- ITS FALSE NEIGHBOUR: 'it returns false'. Refute it at one input. -/
def fnExactBetweenVectorsWrong : ChangeSpec := { name := "fnExactBetweenVectors", fn := fun _ => fun
  | [d1, d2, d3] => { results := [.lit (.bool false)], args := [d1, d2, d3] }
  | _ => none }
def FnExactBetweenVectorsWrongFalsely : Prop := fnExactBetweenVectorsRow.holds Try.pinned (OpenSpec.ofChange fnExactBetweenVectorsWrong)

/-- 'laws.FnExactSameVector': WHATEVER THE INPUT: true; the input reads as it did. -/
def fnExactSameVectorSpec : ChangeSpec := { name := "fnExactSameVector", fn := fun _ => fun
  | [d1, d2] => { results := [.lit (.bool true)], args := [d1, d2] }
  | _ => none }
def fnExactSameVectorRow : OpenClaim := { program := "yteefiihliepbgaa", sum := "bada80a77463645cda5f0c4296715ca36a666a9e2554e4ba296fa47784acfb15", func := "loop.example/g01180/laws.FnExactSameVector", spec := "fnExactSameVector", inPlace := ["math.Float32bits", "math.Float64bits"], apart := false }
def FnExactSameVectorSaid : Prop := fnExactSameVectorRow.holds Try.pinned (OpenSpec.ofChange fnExactSameVectorSpec)

/-- ITS FALSE NEIGHBOUR: 'it returns false'. Refute it at one input. -/
def fnExactSameVectorWrong : ChangeSpec := { name := "fnExactSameVector", fn := fun _ => fun
  | [d1, d2] => { results := [.lit (.bool false)], args := [d1, d2] }
  | _ => none }
def FnExactSameVectorWrongFalsely : Prop := fnExactSameVectorRow.holds Try.pinned (OpenSpec.ofChange fnExactSameVectorWrong)

/-- 'laws.FnExactRotateBy': WHATEVER THE INPUT: true; the input reads as it did. -/
def fnExactRotateBySpec : ChangeSpec := { name := "fnExactRotateBy", fn := fun _ => fun
  | [d1, d2] => { results := [.lit (.bool true)], args := [d1, d2] }
  | _ => none }
def fnExactRotateByRow : OpenClaim := { program := "yteefiihliepbgaa", sum := "bada80a77463645cda5f0c4296715ca36a666a9e2554e4ba296fa47784acfb15", func := "loop.example/g01180/laws.FnExactRotateBy", spec := "fnExactRotateBy", apart := false }
def FnExactRotateBySaid : Prop := fnExactRotateByRow.holds Try.pinned (OpenSpec.ofChange fnExactRotateBySpec)

/-- ITS FALSE NEIGHBOUR: 'it returns false'. Refute it at one input. -/
def fnExactRotateByWrong : ChangeSpec := { name := "fnExactRotateBy", fn := fun _ => fun
  | [d1, d2] => { results := [.lit (.bool false)], args := [d1, d2] }
  | _ => none }
def FnExactRotateByWrongFalsely : Prop := fnExactRotateByRow.holds Try.pinned (OpenSpec.ofChange fnExactRotateByWrong)

/- THE SECOND FORM. 'bulk': how many values and letters a reading holds, each counted each time it is reached (what is shared counts as often as it is met; a slice's spare places count too). A statement '..UptoSaid' is the law's where the arguments, and the package variables that the reading takes, are together of bulk at most 1048576: NARROWER than '..Said'. Prove '..Said' where nothing that the law and all that it calls make is longer than what came in: it says more and counts as full. Else prove '..UptoSaid'. A law counts once. -/
mutual
def uptoBulk {H : Type} : DataW H → Nat
  | .lit (.string bytes) => bytes.length + 1
  | .lit _ => 1
  | .nil => 1
  | .ptr d => uptoBulk d + 1
  | .slice elems spare => uptoBulkAll elems + uptoBulkAll spare + 1
  | .agg parts => uptoBulkAll parts + 1
  | .iface _ d => uptoBulk d + 1
  | .map entries => uptoBulkEntries entries + 1
  | .held _ => 1
def uptoBulkAll {H : Type} : List (DataW H) → Nat
  | [] => 0
  | d :: r => uptoBulk d + uptoBulkAll r
def uptoBulkEntries {H : Type} : List (Lit × DataW H) → Nat
  | [] => 0
  | x :: r => uptoBulkEntry x + uptoBulkEntries r
def uptoBulkEntry {H : Type} : Lit × DataW H → Nat
  | (.string bytes, d) => bytes.length + uptoBulk d + 1
  | (_, d) => uptoBulk d + 1
 end
def uptoSmall : (H : Type) → List (DataW H) → Bool := fun _ ds => decide (uptoBulkAll ds ≤ 1048576)
def OpenSpec.upto (s : _root_.Go.ChangeSpec) : _root_.Go.OpenSpec := { _root_.Go.OpenSpec.ofChange s with cond := some uptoSmall }

/-- 'laws.FnExactInnerOf', WHERE WHAT IT READS IS OF BULK AT MOST 1048576: true; the input reads as it did. -/
def fnExactInnerOfUptoRow : OpenClaim := { program := "yteefiihliepbgaa", sum := "bada80a77463645cda5f0c4296715ca36a666a9e2554e4ba296fa47784acfb15", func := "loop.example/g01180/laws.FnExactInnerOf", spec := "fnExactInnerOf", apart := false, narrowed := true }
def FnExactInnerOfUptoSaid : Prop := fnExactInnerOfUptoRow.holds Try.pinned (OpenSpec.upto fnExactInnerOfSpec)

/-- 'laws.FnExactAddVectors', WHERE WHAT IT READS IS OF BULK AT MOST 1048576: true; the input reads as it did. -/
def fnExactAddVectorsUptoRow : OpenClaim := { program := "yteefiihliepbgaa", sum := "bada80a77463645cda5f0c4296715ca36a666a9e2554e4ba296fa47784acfb15", func := "loop.example/g01180/laws.FnExactAddVectors", spec := "fnExactAddVectors", apart := false, narrowed := true }
def FnExactAddVectorsUptoSaid : Prop := fnExactAddVectorsUptoRow.holds Try.pinned (OpenSpec.upto fnExactAddVectorsSpec)

/-- 'laws.FnExactLessVectors', WHERE WHAT IT READS IS OF BULK AT MOST 1048576: true; the input reads as it did. -/
def fnExactLessVectorsUptoRow : OpenClaim := { program := "yteefiihliepbgaa", sum := "bada80a77463645cda5f0c4296715ca36a666a9e2554e4ba296fa47784acfb15", func := "loop.example/g01180/laws.FnExactLessVectors", spec := "fnExactLessVectors", apart := false, narrowed := true }
def FnExactLessVectorsUptoSaid : Prop := fnExactLessVectorsUptoRow.holds Try.pinned (OpenSpec.upto fnExactLessVectorsSpec)

/-- 'laws.FnExactScaleVector', WHERE WHAT IT READS IS OF BULK AT MOST 1048576: true; the input reads as it did. -/
def fnExactScaleVectorUptoRow : OpenClaim := { program := "yteefiihliepbgaa", sum := "bada80a77463645cda5f0c4296715ca36a666a9e2554e4ba296fa47784acfb15", func := "loop.example/g01180/laws.FnExactScaleVector", spec := "fnExactScaleVector", apart := false, narrowed := true }
def FnExactScaleVectorUptoSaid : Prop := fnExactScaleVectorUptoRow.holds Try.pinned (OpenSpec.upto fnExactScaleVectorSpec)

/-- 'laws.FnExactCrossOf', WHERE WHAT IT READS IS OF BULK AT MOST 1048576: true; the input reads as it did. -/
def fnExactCrossOfUptoRow : OpenClaim := { program := "yteefiihliepbgaa", sum := "bada80a77463645cda5f0c4296715ca36a666a9e2554e4ba296fa47784acfb15", func := "loop.example/g01180/laws.FnExactCrossOf", spec := "fnExactCrossOf", apart := false, narrowed := true }
def FnExactCrossOfUptoSaid : Prop := fnExactCrossOfUptoRow.holds Try.pinned (OpenSpec.upto fnExactCrossOfSpec)

/-- 'laws.FnExactBetweenVectors', WHERE WHAT IT READS IS OF BULK AT MOST 1048576: true; the input reads as it did. -/
def fnExactBetweenVectorsUptoRow : OpenClaim := { program := "yteefiihliepbgaa", sum := "bada80a77463645cda5f0c4296715ca36a666a9e2554e4ba296fa47784acfb15", func := "loop.example/g01180/laws.FnExactBetweenVectors", spec := "fnExactBetweenVectors", apart := false, narrowed := true }
def FnExactBetweenVectorsUptoSaid : Prop := fnExactBetweenVectorsUptoRow.holds Try.pinned (OpenSpec.upto fnExactBetweenVectorsSpec)

/-- 'laws.FnExactSameVector', WHERE WHAT IT READS IS OF BULK AT MOST 1048576: true; the input reads as it did. -/
def fnExactSameVectorUptoRow : OpenClaim := { program := "yteefiihliepbgaa", sum := "bada80a77463645cda5f0c4296715ca36a666a9e2554e4ba296fa47784acfb15", func := "loop.example/g01180/laws.FnExactSameVector", spec := "fnExactSameVector", inPlace := ["math.Float32bits", "math.Float64bits"], apart := false, narrowed := true }
def FnExactSameVectorUptoSaid : Prop := fnExactSameVectorUptoRow.holds Try.pinned (OpenSpec.upto fnExactSameVectorSpec)

/-- 'laws.FnExactRotateBy', WHERE WHAT IT READS IS OF BULK AT MOST 1048576: true; the input reads as it did. -/
def fnExactRotateByUptoRow : OpenClaim := { program := "yteefiihliepbgaa", sum := "bada80a77463645cda5f0c4296715ca36a666a9e2554e4ba296fa47784acfb15", func := "loop.example/g01180/laws.FnExactRotateBy", spec := "fnExactRotateBy", apart := false, narrowed := true }
def FnExactRotateByUptoSaid : Prop := fnExactRotateByUptoRow.holds Try.pinned (OpenSpec.upto fnExactRotateBySpec)

end Rows
end Go.Proofs.Yteefiihliepbgaa
