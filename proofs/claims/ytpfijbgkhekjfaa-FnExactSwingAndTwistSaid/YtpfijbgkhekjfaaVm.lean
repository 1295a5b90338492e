/-
  The product of two turns. No condition.
-/
import Derived.Test.YtpfijbgkhekjfaaVb
set_option linter.unusedVariables false
namespace Go.Proofs.Ytpfijbgkhekjfaa
open Go.RowKit Go.Proofs.Ytpfijbgkhekjfaa.Fl

set_option maxRecDepth 100000 in
set_option maxHeartbeats 2000000 in
theorem c_impl_MulTurns {tw tx ty tz rw rx ry rz : Nat} {Ct : V4} {Cr : V4} (ht : Fv4 tw tx ty tz Ct) (hr : Fv4 rw rx ry rz Cr) (w : World) : Calls Try.prog 36 #[turn tw tx ty tz, turn rw rx ry rz] w (RetT (mulC Ct Cr) w) := by
  obtain ⟨ht_0, ht_1, ht_2, ht_3⟩ := ht
  obtain ⟨hr_0, hr_1, hr_2, hr_3⟩ := hr
  go_enter Try.func36, Try.ntmps36
  go_wp2_with ((with_reducible apply upon_float_bin); exact rfl; (first | assumption | exact fvc rfl); (first | assumption | exact fvc rfl); intro r n hr; (try rw [World.drewN_drewN]); simp only [Act.put, List.setIfInBounds_toArray, List.set_cons_zero, List.set_cons_succ])
  apply ret_turn; (first | assumption | exact Fv.neg (by assumption)); (first | assumption | exact Fv.neg (by assumption)); (first | assumption | exact Fv.neg (by assumption)); (first | assumption | exact Fv.neg (by assumption)); simp [results, Try.results36, go_sem]; rfl; (repeat (first | exact Below.refl _ _ | (refine below_drewN ?_ _) | (refine Below.drew ?_) | (refine Below.setCell ?_ (by first | omega | (simp; try omega)) _) | (refine Below.alloc ?_ (by first | omega | (simp; try omega)) _) | (refine Below.trans ?_ (Below.mono (by assumption) (by first | omega | (simp; try omega))))))

set_option maxRecDepth 100000 in
set_option maxHeartbeats 2000000 in
theorem c_spec_l02Mul {tw tx ty tz rw rx ry rz : Nat} {Ct : V4} {Cr : V4} (ht : Fv4 tw tx ty tz Ct) (hr : Fv4 rw rx ry rz Cr) (w : World) : Calls Try.prog 58 #[turn tw tx ty tz, turn rw rx ry rz] w (RetT (mulC Ct Cr) w) := by
  obtain ⟨ht_0, ht_1, ht_2, ht_3⟩ := ht
  obtain ⟨hr_0, hr_1, hr_2, hr_3⟩ := hr
  go_enter Try.func58, Try.ntmps58
  go_wp2_with ((with_reducible apply upon_float_bin); exact rfl; (first | assumption | exact fvc rfl); (first | assumption | exact fvc rfl); intro r n hr; (try rw [World.drewN_drewN]); simp only [Act.put, List.setIfInBounds_toArray, List.set_cons_zero, List.set_cons_succ])
  apply ret_turn; (first | assumption | exact Fv.neg (by assumption)); (first | assumption | exact Fv.neg (by assumption)); (first | assumption | exact Fv.neg (by assumption)); (first | assumption | exact Fv.neg (by assumption)); simp [results, Try.results58, go_sem]; rfl; (repeat (first | exact Below.refl _ _ | (refine below_drewN ?_ _) | (refine Below.drew ?_) | (refine Below.setCell ?_ (by first | omega | (simp; try omega)) _) | (refine Below.alloc ?_ (by first | omega | (simp; try omega)) _) | (refine Below.trans ?_ (Below.mono (by assumption) (by first | omega | (simp; try omega))))))

end Go.Proofs.Ytpfijbgkhekjfaa
