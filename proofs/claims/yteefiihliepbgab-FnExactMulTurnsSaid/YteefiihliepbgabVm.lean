/-
  The product of two turns. No condition.
-/
import Derived.Test.YteefiihliepbgabVb
set_option linter.unusedVariables false
namespace Go.Proofs.Yteefiihliepbgab
open Go.RowKit Go.Proofs.Yteefiihliepbgab.Fl

set_option maxRecDepth 100000 in
set_option maxHeartbeats 2000000 in
theorem c_impl_MulTurns {tw tx ty tz rw rx ry rz : Nat} {Ct : V4} {Cr : V4} (ht : Fv4 tw tx ty tz Ct) (hr : Fv4 rw rx ry rz Cr) (w : World) : Calls Try.prog 23 #[turn tw tx ty tz, turn rw rx ry rz] w (RetT (mulC Ct Cr) w) := by
  obtain ⟨ht_0, ht_1, ht_2, ht_3⟩ := ht
  obtain ⟨hr_0, hr_1, hr_2, hr_3⟩ := hr
  go_enter Try.func23, Try.ntmps23
  go_wp2_with ((with_reducible apply upon_float_bin); exact rfl; (first | assumption | exact fvc rfl); (first | assumption | exact fvc rfl); intro r n hr; (try rw [World.drewN_drewN]); simp only [Act.put, List.setIfInBounds_toArray, List.set_cons_zero, List.set_cons_succ])
  apply ret_turn; (first | assumption | exact Fv.neg (by assumption)); (first | assumption | exact Fv.neg (by assumption)); (first | assumption | exact Fv.neg (by assumption)); (first | assumption | exact Fv.neg (by assumption)); simp [results, Try.results23, go_sem]; rfl; (repeat (first | exact Below.refl _ _ | (refine below_drewN ?_ _) | (refine Below.drew ?_) | (refine Below.setCell ?_ (by simp; try omega) _) | (refine Below.alloc ?_ (by simp; try omega) _) | (refine Below.trans ?_ (Below.mono (by assumption) (by simp; try omega)))))

set_option maxRecDepth 100000 in
set_option maxHeartbeats 2000000 in
theorem c_spec_l02Mul {tw tx ty tz rw rx ry rz : Nat} {Ct : V4} {Cr : V4} (ht : Fv4 tw tx ty tz Ct) (hr : Fv4 rw rx ry rz Cr) (w : World) : Calls Try.prog 36 #[turn tw tx ty tz, turn rw rx ry rz] w (RetT (mulC Ct Cr) w) := by
  obtain ⟨ht_0, ht_1, ht_2, ht_3⟩ := ht
  obtain ⟨hr_0, hr_1, hr_2, hr_3⟩ := hr
  go_enter Try.func36, Try.ntmps36
  go_wp2_with ((with_reducible apply upon_float_bin); exact rfl; (first | assumption | exact fvc rfl); (first | assumption | exact fvc rfl); intro r n hr; (try rw [World.drewN_drewN]); simp only [Act.put, List.setIfInBounds_toArray, List.set_cons_zero, List.set_cons_succ])
  apply ret_turn; (first | assumption | exact Fv.neg (by assumption)); (first | assumption | exact Fv.neg (by assumption)); (first | assumption | exact Fv.neg (by assumption)); (first | assumption | exact Fv.neg (by assumption)); simp [results, Try.results36, go_sem]; rfl; (repeat (first | exact Below.refl _ _ | (refine below_drewN ?_ _) | (refine Below.drew ?_) | (refine Below.setCell ?_ (by simp; try omega) _) | (refine Below.alloc ?_ (by simp; try omega) _) | (refine Below.trans ?_ (Below.mono (by assumption) (by simp; try omega)))))

theorem c_spec_MulTurns {tw tx ty tz rw rx ry rz : Nat} {Ct : V4} {Cr : V4} (ht : Fv4 tw tx ty tz Ct) (hr : Fv4 rw rx ry rz Cr) (w : World) : Calls Try.prog 22 #[turn tw tx ty tz, turn rw rx ry rz] w (RetT (mulC Ct Cr) w) := by
  go_enter Try.func22, Try.ntmps22
  go_wp2_with (go_at_call 36; refine (c_spec_l02Mul ht hr _).mono ?_; rintro e w' ⟨⟨p2, x2, y2, z2, rfl, hv⟩, hb⟩; have hvw := hv.w; have hvx := hv.x; have hvy := hv.y; have hvz := hv.z; obtain ⟨hc, hf⟩ := bcell hb; have hs := hb.size; (try simp at hs))
  apply ret_turn; exact hv.w; exact hv.x; exact hv.y; exact hv.z; simp [results, Try.results22, go_sem, hc]; rfl; (repeat (first | exact Below.refl _ _ | (refine below_drewN ?_ _) | (refine Below.drew ?_) | (refine Below.setCell ?_ (by simp; try omega) _) | (refine Below.alloc ?_ (by simp; try omega) _) | (refine Below.trans ?_ (Below.mono (by assumption) (by simp; try omega)))))

end Go.Proofs.Yteefiihliepbgab
