/-
  The walks of the statements on numbers. No condition but that the words fit their kinds.
-/
import Derived.Test.YtiacekmicahmbaaWa
namespace Go.Proofs.Ytiacekmicahmbaa
open Go.RowKit Go.Proofs.Ytiacekmicahmbaa.Fl

theorem walk_Constants (w : World) :
    Calls Try.prog 3 #[] w fun e w' => e = .returned (.bool true) ∧ Below w.heap.size w w' := by
  go_enter Try.func3, Try.ntmps3
  go_wp2
  go_ret
  exact ⟨rfl, Below.refl _ _⟩

theorem isFinite_spec (x : Nat) (c : Option Nat) (h : Fv .f32 x c) (w : World) :
    Calls Try.prog 15 #[.float .f32 x] w fun e w' => e = .returned (.bool (finB c)) ∧ ∃ n, w' = w.drewN n := by
  go_enter Try.func15, Try.ntmps15
  go_wp2_with (go_at_call 38; refine (l01Finite_spec _ _ h _).mono ?_; rintro e w' ⟨rfl, n, rfl⟩)
  go_ret
  exact ⟨rfl, _, rfl⟩

theorem walk_IsFinite (a0 : Nat) (h0 : a0 < 2 ^ FloatKind.f32.format.width) (w : World) :
    Calls Try.prog 4 #[.float .f32 a0] w fun e w' => e = .returned (.bool true) ∧ Below w.heap.size w w' := by
  have h := Fv.self h0
  go_enter Try.func4, Try.ntmps4
  go_wp2_with (first | (go_at_call 15; refine (isFinite_spec _ _ h _).mono ?_; rintro e w' ⟨rfl, n, rfl⟩) | (go_at_call 16; refine (isFinite_impl _ _ h _).mono ?_; rintro e w' ⟨rfl, n, rfl⟩))
  go_ret
  exact ⟨rfl, bel_drewN _ _⟩

end Go.Proofs.Ytiacekmicahmbaa
