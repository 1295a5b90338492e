/-
  CurveTurn: for every input the statement's function returns true and leaves its arguments as they were. No condition.
  The frame is the guide's own way (the proof's shell), written by a program of mine; the walk is mine.
-/
import Derived.Test.YtpfijbgkhekjfaaRows
import Derived.Test.YtpfijbgkhekjfaaFo
import Derived.Test.YtpfijbgkhekjfaaWCurveTurn
import Derived.WalkKit
import Derived.ProofKit
import Derived.OpenShut
import Derived.ShutString
import Derived.ChangeOld
import Derived.Below
namespace Go.Proofs.Ytpfijbgkhekjfaa.lawCurveTurn
open Go.ChangeShapes Go.WideShapes Go.ChangeAt Go.RowKit Go.Joins Go.Proofs.Ytpfijbgkhekjfaa.Fl
open Go.ChangeMaps (open_string shut_string)
set_option linter.unusedVariables false

theorem own : ownKnob Try.prog.godebug = none := by kernel_rfl
theorem laidOut : laidOutB Try.prog = true := by kernel_rfl

set_option maxRecDepth 100000 in
theorem lifted (os : Os) (started : os.Started) (H : Type) (enc : TypeId × Value → H) :
    ReturnsInHanded {} Try.checked os 3 .any (Rows.fnExactCurveTurnSpec.pre6 enc Try.prog Try.f3 Rows.fnExactCurveTurnRow.domain false) (Rows.fnExactCurveTurnSpec.post enc Try.prog Try.f3 false true false false) := by
  refine returnsInHanded_of_change (C := Try.checked) own started (by kernel_rfl) Try.func3
    (ChangeSpec.witness6 (enc := enc) (C := Try.checked) false ⟨#[], #[.agg #[.float .f32 0, .float .f32 0, .float .f32 0, .float .f32 0], .agg #[.float .f32 0, .float .f32 0, .float .f32 0, .float .f32 0], .agg #[.float .f32 0, .float .f32 0, .float .f32 0, .float .f32 0], .agg #[.float .f32 0, .float .f32 0, .float .f32 0, .float .f32 0], .float .f32 0], []⟩ 8 (by kernel_rfl) (by kernel_rfl) (by kernel_rfl) (by kernel_rfl)) ?_
  intro W base args ds gs before hval0 hW hcnd _
  have hval : ∀ (j : Nat) t v, Try.f3.params[j]? = some t → args[j]? = some v → Value.okWide Try.prog W .any base t v := hval0
  have hW' := hW
  obtain ⟨p, q, hA0, hV, rfl, hfz, hnd⟩ := hW
  have hA : DataW.TrodAll enc Try.prog W 0 (fun _ => true) true Try.f3.params.toList args.toList ds p := hA0
  rw [Try.params3] at hA hval
  obtain ⟨v0, vs0, d0, ds0, p0, q0, hargs, rfl, rfl, h0, r0⟩ := trodAll_cons hA
  obtain ⟨v1, vs1, d1, ds1, p1, q1, rfl, rfl, rfl, h1, r1⟩ := trodAll_cons r0
  obtain ⟨v2, vs2, d2, ds2, p2, q2, rfl, rfl, rfl, h2, r2⟩ := trodAll_cons r1
  obtain ⟨v3, vs3, d3, ds3, p3, q3, rfl, rfl, rfl, h3, r3⟩ := trodAll_cons r2
  obtain ⟨v4, vs4, d4, ds4, p4, q4, rfl, rfl, rfl, h4, r4⟩ := trodAll_cons r3
  obtain ⟨rfl, rfl, rfl⟩ := trodAll_nil r4
  obtain rfl : args = #[v0, v1, v2, v3, v4] := by cases args; simp_all
  obtain ⟨rfl, rfl⟩ := trodVars_none hV
  have k0 := h0
  have lt0 : ∀ x ∈ p0, x.block < W.heap.size := by obtain ⟨m, hm⟩ := k0; exact DataW.trod_lt m _ _ _ hm
  obtain ⟨c00, c01, c02, c03, y00, y01, y02, y03, m0, rfl, -, -, hy00, hy01, hy02, hy03⟩ := open_agg4 Try.underlying24 (by kernel_rfl) (show Try.prog.cellsOf 24 = 4 by kernel_rfl) (hval 0 24 v0 rfl rfl) h0
  obtain ⟨a00, rfl, w00⟩ := trod_float Try.underlying22 hy00
  obtain ⟨a01, rfl, w01⟩ := trod_float Try.underlying22 hy01
  obtain ⟨a02, rfl, w02⟩ := trod_float Try.underlying22 hy02
  obtain ⟨a03, rfl, w03⟩ := trod_float Try.underlying22 hy03
  have k1 := h1
  have lt1 : ∀ x ∈ p1, x.block < W.heap.size := by obtain ⟨m, hm⟩ := k1; exact DataW.trod_lt m _ _ _ hm
  obtain ⟨c10, c11, c12, c13, y10, y11, y12, y13, m1, rfl, -, -, hy10, hy11, hy12, hy13⟩ := open_agg4 Try.underlying24 (by kernel_rfl) (show Try.prog.cellsOf 24 = 4 by kernel_rfl) (hval 1 24 v1 rfl rfl) h1
  obtain ⟨a10, rfl, w10⟩ := trod_float Try.underlying22 hy10
  obtain ⟨a11, rfl, w11⟩ := trod_float Try.underlying22 hy11
  obtain ⟨a12, rfl, w12⟩ := trod_float Try.underlying22 hy12
  obtain ⟨a13, rfl, w13⟩ := trod_float Try.underlying22 hy13
  have k2 := h2
  have lt2 : ∀ x ∈ p2, x.block < W.heap.size := by obtain ⟨m, hm⟩ := k2; exact DataW.trod_lt m _ _ _ hm
  obtain ⟨c20, c21, c22, c23, y20, y21, y22, y23, m2, rfl, -, -, hy20, hy21, hy22, hy23⟩ := open_agg4 Try.underlying24 (by kernel_rfl) (show Try.prog.cellsOf 24 = 4 by kernel_rfl) (hval 2 24 v2 rfl rfl) h2
  obtain ⟨a20, rfl, w20⟩ := trod_float Try.underlying22 hy20
  obtain ⟨a21, rfl, w21⟩ := trod_float Try.underlying22 hy21
  obtain ⟨a22, rfl, w22⟩ := trod_float Try.underlying22 hy22
  obtain ⟨a23, rfl, w23⟩ := trod_float Try.underlying22 hy23
  have k3 := h3
  have lt3 : ∀ x ∈ p3, x.block < W.heap.size := by obtain ⟨m, hm⟩ := k3; exact DataW.trod_lt m _ _ _ hm
  obtain ⟨c30, c31, c32, c33, y30, y31, y32, y33, m3, rfl, -, -, hy30, hy31, hy32, hy33⟩ := open_agg4 Try.underlying24 (by kernel_rfl) (show Try.prog.cellsOf 24 = 4 by kernel_rfl) (hval 3 24 v3 rfl rfl) h3
  obtain ⟨a30, rfl, w30⟩ := trod_float Try.underlying22 hy30
  obtain ⟨a31, rfl, w31⟩ := trod_float Try.underlying22 hy31
  obtain ⟨a32, rfl, w32⟩ := trod_float Try.underlying22 hy32
  obtain ⟨a33, rfl, w33⟩ := trod_float Try.underlying22 hy33
  have k4 := h4
  have lt4 : ∀ x ∈ p4, x.block < W.heap.size := by obtain ⟨m, hm⟩ := k4; exact DataW.trod_lt m _ _ _ hm
  obtain ⟨a4, rfl, rfl, rfl, w4⟩ := open_float Try.underlying22 (hval 4 22 v4 rfl rfl) h4
  clear hA0 hval0
  refine (walk_CurveTurn a00 w00 a01 w01 a02 w02 a03 w03 a10 w10 a11 w11 a12 w12 a13 w13 a20 w20 a21 w21 a22 w22 a23 w23 a30 w30 a31 w31 a32 w32 a33 w33 a4 (lt_of_wf w4) W).mono fun e W' ⟨he, bel⟩ => ?_
  subst he
  exact ⟨_, rfl, _, _, _, [], _, [], hW', trodAll_mk1 (shut_bool Try.underlying4 _), (trodAll_cons_mk (Below.trod laidOut (by kernel_rfl) (of_decide_eq_true (by kernel_rfl)) k0 bel lt0) (trodAll_cons_mk (Below.trod laidOut (by kernel_rfl) (of_decide_eq_true (by kernel_rfl)) k1 bel lt1) (trodAll_cons_mk (Below.trod laidOut (by kernel_rfl) (of_decide_eq_true (by kernel_rfl)) k2 bel lt2) (trodAll_cons_mk (Below.trod laidOut (by kernel_rfl) (of_decide_eq_true (by kernel_rfl)) k3 bel lt3) (trodAll_cons_mk (Below.trod laidOut (by kernel_rfl) (of_decide_eq_true (by kernel_rfl)) k4 bel lt4) trodAll_mk0))))), rfl, bel.frame _, fun h => by cases h⟩

theorem over : Rows.fnExactCurveTurnRow.holds Try.pinned (OpenSpec.ofChange Rows.fnExactCurveTurnSpec) :=
  OpenClaim.holds_of_wide 3 Try.f3 rfl rfl rfl rfl rfl rfl rfl ⟨rfl, rfl, rfl, rfl, rfl⟩ rfl rfl rfl rfl rfl (by kernel_rfl) Try.func3 (by kernel_rfl)
    (of_decide_eq_true (by kernel_rfl)) (by unfold Func.isWrapper; first | (rw [if_pos (by decide +kernel)]; kernel_rfl) | (rw [if_neg (by decide +kernel)]; exact ⟨rfl, rfl⟩))
    (fun os started H enc _ => lifted os started H enc)

/-- THE STATEMENT. -/
theorem proved : Rows.FnExactCurveTurnSaid := over
#print axioms proved
end Go.Proofs.Ytpfijbgkhekjfaa.lawCurveTurn
