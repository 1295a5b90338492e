/-
  Whether two vectors, or two turns, have the same numbers. No condition.
-/
import Derived.Test.YteefiihliepbgabVb
import Derived.Test.YteefiihliepbgabWb
set_option linter.unusedVariables false
namespace Go.Proofs.Yteefiihliepbgab
open Go.RowKit Go.Proofs.Yteefiihliepbgab.Fl

def sameC3 (u v : V3) : Bool := (sameB u.x v.x && sameB u.y v.y) && sameB u.z v.z
def sameC4 (s t : V4) : Bool := ((sameB s.w t.w && sameB s.x t.x) && sameB s.y t.y) && sameB s.z t.z

theorem l01Same_b {x y : Nat} {c d : Option Nat} (h : Fv .f32 x c) (k : Fv .f32 y d) (w : World) :
    Calls Try.prog 48 #[.float .f32 x, .float .f32 y] w fun e w' => e = .returned (.bool (sameB c d)) ∧ ∃ n, w' = w.drewN n :=
  (l01Same_spec x y c d h k w).mono fun e w' ⟨he, hw⟩ => ⟨he.trans (ret_bool (bitsC_same h k)), hw⟩

theorem sameNumber_b {x y : Nat} {c d : Option Nat} (h : Fv .f32 x c) (k : Fv .f32 y d) (w : World) :
    Calls Try.prog 34 #[.float .f32 x, .float .f32 y] w fun e w' => e = .returned (.bool (sameB c d)) ∧ ∃ n, w' = w.drewN n := sameNumber_impl x y c d h k w



set_option maxRecDepth 10000 in
theorem c_impl_SameTurn {aw ax ay az rw rx ry rz : Nat} {Ca Cb : V4} (ha : Fv4 aw ax ay az Ca) (hb : Fv4 rw rx ry rz Cb) (w : World) : Calls Try.prog 19 #[turn aw ax ay az, turn rw rx ry rz] w (RetB (sameC4 Ca Cb) w) := by
  obtain ⟨haw, hax, hay, haz⟩ := ha
  obtain ⟨hbw, hbx, hby, hbz⟩ := hb
  cases q0 : sameB Ca.w Cb.w with
  | false =>
    go_enter Try.func19, Try.ntmps19
    go_wp2_with (go_at_call 34; refine (sameNumber_b (by assumption) (by assumption) _).mono ?_; rintro e w' ⟨rfl, n, rfl⟩)
    go_ret
    exact ⟨ret_bool (by unfold sameC4; rw [q0]; rfl), by (repeat (first | exact Below.refl _ _ | (refine below_drewN ?_ _) | (refine Below.drew ?_) | (refine Below.setCell ?_ (by simp; try omega) _) | (refine Below.alloc ?_ (by simp; try omega) _) | (refine Below.trans ?_ (Below.mono (by assumption) (by simp; try omega)))))⟩
  | true =>
    cases q1 : sameB Ca.x Cb.x with
    | false =>
      go_enter Try.func19, Try.ntmps19
      go_wp2_with (go_at_call 34; refine (sameNumber_b (by assumption) (by assumption) _).mono ?_; rintro e w' ⟨rfl, n, rfl⟩)
      go_ret
      exact ⟨ret_bool (by unfold sameC4; rw [q0, q1]; rfl), by (repeat (first | exact Below.refl _ _ | (refine below_drewN ?_ _) | (refine Below.drew ?_) | (refine Below.setCell ?_ (by simp; try omega) _) | (refine Below.alloc ?_ (by simp; try omega) _) | (refine Below.trans ?_ (Below.mono (by assumption) (by simp; try omega)))))⟩
    | true =>
      cases q2 : sameB Ca.y Cb.y with
      | false =>
        go_enter Try.func19, Try.ntmps19
        go_wp2_with (go_at_call 34; refine (sameNumber_b (by assumption) (by assumption) _).mono ?_; rintro e w' ⟨rfl, n, rfl⟩)
        go_ret
        exact ⟨ret_bool (by unfold sameC4; rw [q0, q1, q2]; rfl), by (repeat (first | exact Below.refl _ _ | (refine below_drewN ?_ _) | (refine Below.drew ?_) | (refine Below.setCell ?_ (by simp; try omega) _) | (refine Below.alloc ?_ (by simp; try omega) _) | (refine Below.trans ?_ (Below.mono (by assumption) (by simp; try omega)))))⟩
      | true =>
        go_enter Try.func19, Try.ntmps19
        go_wp2_with (go_at_call 34; refine (sameNumber_b (by assumption) (by assumption) _).mono ?_; rintro e w' ⟨rfl, n, rfl⟩)
        go_ret
        exact ⟨ret_bool (by unfold sameC4; rw [q0, q1, q2]; rfl), by (repeat (first | exact Below.refl _ _ | (refine below_drewN ?_ _) | (refine Below.drew ?_) | (refine Below.setCell ?_ (by simp; try omega) _) | (refine Below.alloc ?_ (by simp; try omega) _) | (refine Below.trans ?_ (Below.mono (by assumption) (by simp; try omega)))))⟩

set_option maxRecDepth 10000 in
theorem c_spec_l02Same {aw ax ay az rw rx ry rz : Nat} {Ca Cb : V4} (ha : Fv4 aw ax ay az Ca) (hb : Fv4 rw rx ry rz Cb) (w : World) : Calls Try.prog 33 #[turn aw ax ay az, turn rw rx ry rz] w (RetB (sameC4 Ca Cb) w) := by
  obtain ⟨haw, hax, hay, haz⟩ := ha
  obtain ⟨hbw, hbx, hby, hbz⟩ := hb
  cases q0 : sameB Ca.w Cb.w with
  | false =>
    go_enter Try.func33, Try.ntmps33
    go_wp2_with (go_at_call 48; refine (l01Same_b (by assumption) (by assumption) _).mono ?_; rintro e w' ⟨rfl, n, rfl⟩)
    go_ret
    exact ⟨ret_bool (by unfold sameC4; rw [q0]; rfl), by (repeat (first | exact Below.refl _ _ | (refine below_drewN ?_ _) | (refine Below.drew ?_) | (refine Below.setCell ?_ (by simp; try omega) _) | (refine Below.alloc ?_ (by simp; try omega) _) | (refine Below.trans ?_ (Below.mono (by assumption) (by simp; try omega)))))⟩
  | true =>
    cases q1 : sameB Ca.x Cb.x with
    | false =>
      go_enter Try.func33, Try.ntmps33
      go_wp2_with (go_at_call 48; refine (l01Same_b (by assumption) (by assumption) _).mono ?_; rintro e w' ⟨rfl, n, rfl⟩)
      go_ret
      exact ⟨ret_bool (by unfold sameC4; rw [q0, q1]; rfl), by (repeat (first | exact Below.refl _ _ | (refine below_drewN ?_ _) | (refine Below.drew ?_) | (refine Below.setCell ?_ (by simp; try omega) _) | (refine Below.alloc ?_ (by simp; try omega) _) | (refine Below.trans ?_ (Below.mono (by assumption) (by simp; try omega)))))⟩
    | true =>
      cases q2 : sameB Ca.y Cb.y with
      | false =>
        go_enter Try.func33, Try.ntmps33
        go_wp2_with (go_at_call 48; refine (l01Same_b (by assumption) (by assumption) _).mono ?_; rintro e w' ⟨rfl, n, rfl⟩)
        go_ret
        exact ⟨ret_bool (by unfold sameC4; rw [q0, q1, q2]; rfl), by (repeat (first | exact Below.refl _ _ | (refine below_drewN ?_ _) | (refine Below.drew ?_) | (refine Below.setCell ?_ (by simp; try omega) _) | (refine Below.alloc ?_ (by simp; try omega) _) | (refine Below.trans ?_ (Below.mono (by assumption) (by simp; try omega)))))⟩
      | true =>
        go_enter Try.func33, Try.ntmps33
        go_wp2_with (go_at_call 48; refine (l01Same_b (by assumption) (by assumption) _).mono ?_; rintro e w' ⟨rfl, n, rfl⟩)
        go_ret
        exact ⟨ret_bool (by unfold sameC4; rw [q0, q1, q2]; rfl), by (repeat (first | exact Below.refl _ _ | (refine below_drewN ?_ _) | (refine Below.drew ?_) | (refine Below.setCell ?_ (by simp; try omega) _) | (refine Below.alloc ?_ (by simp; try omega) _) | (refine Below.trans ?_ (Below.mono (by assumption) (by simp; try omega)))))⟩


theorem c_spec_SameTurn {aw ax ay az rw rx ry rz : Nat} {Ca Cb : V4} (ha : Fv4 aw ax ay az Ca) (hb : Fv4 rw rx ry rz Cb) (w : World) : Calls Try.prog 18 #[turn aw ax ay az, turn rw rx ry rz] w (RetB (sameC4 Ca Cb) w) := by
  go_enter Try.func18, Try.ntmps18
  go_wp2_with (go_at_call 33; refine (c_spec_l02Same ha hb _).mono ?_; rintro e w' ⟨rfl, hb⟩; obtain ⟨hc, hf⟩ := bcell hb)
  go_ret
  exact ⟨rfl, by (repeat (first | exact Below.refl _ _ | (refine below_drewN ?_ _) | (refine Below.drew ?_) | (refine Below.setCell ?_ (by simp; try omega) _) | (refine Below.alloc ?_ (by simp; try omega) _) | (refine Below.trans ?_ (Below.mono (by assumption) (by simp; try omega)))))⟩

end Go.Proofs.Yteefiihliepbgab
