/-
  The walks of the statements on vectors and turns: LogNumber. No condition but that the words fit their kinds.
-/
import Derived.Test.YtpfijbgkhekjfabVlog
set_option linter.unusedVariables false
namespace Go.Proofs.Ytpfijbgkhekjfab
open Go.RowKit Go.Proofs.Ytpfijbgkhekjfab.Fl

set_option maxHeartbeats 2000000 in
set_option maxRecDepth 10000 in
theorem core_LogNumber {a00 : Nat} {k0 : Option Nat} (h0 : Fv .f32 a00 k0) (w : World) :
    Calls Try.prog 4 #[.float .f32 a00] w (RetB true w) := by
  go_enter Try.func4, Try.ntmps4
  go_upto_region 1 with fail
  have hbel := Below.refl w.heap.size w
  go_wp2_with fail
  refine (c_spec_LogNumber (by assumption) _).mono ?_
  rintro e w2w ⟨⟨rw, rfl, hvw⟩, hb⟩
  replace hbel := hbel.trans (hb.mono hbel.size)
  clear hb
  go_upto_region 2 with fail
  go_wp2_with fail
  refine (c_impl_LogNumber (by assumption) _).mono ?_
  rintro e w2g ⟨⟨rg, rfl, hvg⟩, hb⟩
  replace hbel := hbel.trans (hb.mono hbel.size)
  clear hb
  go_upto_region 3 with fail
  go_wp2_with (first | ((with_reducible apply upon_float_conv); exact f32some; exact Try.underlying25; assumption; exact fits_widen (by assumption); intro r n hr; (try rw [World.drewN_drewN]); simp only [Act.put, List.setIfInBounds_toArray, List.set_cons_zero, List.set_cons_succ]) | (go_at_call 10; refine (sameFloat_b (by assumption) (by assumption) _).mono ?_; rintro e w' ⟨rfl, m, rfl⟩))
  go_ret
  exact ⟨rfl, below_drewN hbel _⟩

theorem walk_LogNumber (a0 : Nat) (w0 : a0 < 2 ^ FloatKind.f32.format.width) (w : World) :
    Calls Try.prog 4 #[.float .f32 a0] w (RetB true w) :=
  core_LogNumber (k0 := cls .f32 a0) (Fv.self w0) w

end Go.Proofs.Ytpfijbgkhekjfab
