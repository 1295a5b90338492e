/-
  The angle functions of float32. No condition.
-/
import Derived.Test.YtpfijbgkhekjfabVh
set_option linter.unusedVariables false
namespace Go.Proofs.Ytpfijbgkhekjfab
open Go.RowKit Go.Proofs.Ytpfijbgkhekjfab.Fl

def eq5 (c : Option Nat) : Bool := ford .f32 c (some 0) == some .eq
def angleC (cy cx : Option Nat) : Option Nat := match finB cx && finB cy with
  | false => none
  | true => match eq5 cx && eq5 cy with
    | true => some 0
    | false => fconv .f64 .f32 (ang3 (fconv .f32 .f64 cy) (fconv .f32 .f64 cx))

theorem c_math_NaN (w : World) : Calls Try.prog 36 #[] w fun e w' => (∃ r, e = .returned (.float .f64 r) ∧ Fv .f64 r none) ∧ ∃ n, w' = w.drewN n := by
  have hy := f64from
  go_enter Try.func36, Try.ntmps36
  go_wp2
  go_ret
  exact ⟨⟨_, rfl, ⟨by decide, cls_none.2 (by decide)⟩⟩, 0, rfl⟩

theorem c_impl_notNumber (w : World) : Calls Try.prog 24 #[] w fun e w' => (∃ r, e = .returned (.float .f32 r) ∧ Fv .f32 r none) ∧ ∃ n, w' = w.drewN n := by
  go_enter Try.func24, Try.ntmps24
  go_wp2_with (first
    | (go_at_call 36; refine (c_math_NaN _).mono ?_; rintro e w' ⟨⟨r2, rfl, hr2⟩, m, rfl⟩)
    | ((with_reducible apply upon_float_conv); exact f64some; exact Try.underlying22; exact hr2; exact fits_none _ _; intro r3 n3 hr3; (try rw [World.drewN_drewN]); simp only [Act.put, List.setIfInBounds_toArray, List.set_cons_zero, List.set_cons_succ]))
  go_ret
  exact ⟨⟨_, rfl, hr3⟩, _, rfl⟩



theorem c_spec_l01Narrow {x : Nat} {c : Option Nat} (h : Fv .f64 x c) (hfit : Fits .f64 .f32 c) (w : World) :
    Calls Try.prog 34 #[.float .f64 x] w fun e w' => (∃ r, e = .returned (.float .f32 r) ∧ Fv .f32 r (fconv .f64 .f32 c)) ∧ ∃ n, w' = w.drewN n := by
  go_enter Try.func34, Try.ntmps34
  go_wp2_with ((with_reducible apply upon_float_conv); exact f64some; exact Try.underlying22; assumption; assumption; intro r3 n3 hr3; (try rw [World.drewN_drewN]); simp only [Act.put, List.setIfInBounds_toArray, List.set_cons_zero, List.set_cons_succ])
  go_ret
  exact ⟨⟨_, rfl, hr3⟩, _, rfl⟩



end Go.Proofs.Ytpfijbgkhekjfab
