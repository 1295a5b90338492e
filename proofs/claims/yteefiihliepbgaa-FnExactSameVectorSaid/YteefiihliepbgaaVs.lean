/-
  Whether two vectors, or two turns, have the same numbers. No condition.
-/
import Derived.Test.YteefiihliepbgaaVb
import Derived.Test.YteefiihliepbgaaWb
set_option linter.unusedVariables false
namespace Go.Proofs.Yteefiihliepbgaa
open Go.RowKit Go.Proofs.Yteefiihliepbgaa.Fl

def sameC3 (u v : V3) : Bool := (sameB u.x v.x && sameB u.y v.y) && sameB u.z v.z
def sameC4 (s t : V4) : Bool := ((sameB s.w t.w && sameB s.x t.x) && sameB s.y t.y) && sameB s.z t.z

theorem l01Same_b {x y : Nat} {c d : Option Nat} (h : Fv .f32 x c) (k : Fv .f32 y d) (w : World) :
    Calls Try.prog 41 #[.float .f32 x, .float .f32 y] w fun e w' => e = .returned (.bool (sameB c d)) ∧ ∃ n, w' = w.drewN n :=
  (l01Same_spec x y c d h k w).mono fun e w' ⟨he, hw⟩ => ⟨he.trans (ret_bool (bitsC_same h k)), hw⟩

theorem sameNumber_b {x y : Nat} {c d : Option Nat} (h : Fv .f32 x c) (k : Fv .f32 y d) (w : World) :
    Calls Try.prog 38 #[.float .f32 x, .float .f32 y] w fun e w' => e = .returned (.bool (sameB c d)) ∧ ∃ n, w' = w.drewN n := sameNumber_impl x y c d h k w

set_option maxRecDepth 10000 in
theorem c_impl_SameVector {ax ay az rx ry rz : Nat} {Ca Cb : V3} (ha : Fv3 ax ay az Ca) (hb : Fv3 rx ry rz Cb) (w : World) : Calls Try.prog 27 #[vec ax ay az, vec rx ry rz] w (RetB (sameC3 Ca Cb) w) := by
  obtain ⟨hax, hay, haz⟩ := ha
  obtain ⟨hbx, hby, hbz⟩ := hb
  cases q0 : sameB Ca.x Cb.x with
  | false =>
    go_enter Try.func27, Try.ntmps27
    go_wp2_with (go_at_call 38; refine (sameNumber_b (by assumption) (by assumption) _).mono ?_; rintro e w' ⟨rfl, n, rfl⟩)
    go_ret
    exact ⟨ret_bool (by unfold sameC3; rw [q0]; rfl), by (repeat (first | exact Below.refl _ _ | (refine below_drewN ?_ _) | (refine Below.drew ?_) | (refine Below.setCell ?_ (by simp; try omega) _) | (refine Below.alloc ?_ (by simp; try omega) _) | (refine Below.trans ?_ (Below.mono (by assumption) (by simp; try omega)))))⟩
  | true =>
    cases q1 : sameB Ca.y Cb.y with
    | false =>
      go_enter Try.func27, Try.ntmps27
      go_wp2_with (go_at_call 38; refine (sameNumber_b (by assumption) (by assumption) _).mono ?_; rintro e w' ⟨rfl, n, rfl⟩)
      go_ret
      exact ⟨ret_bool (by unfold sameC3; rw [q0, q1]; rfl), by (repeat (first | exact Below.refl _ _ | (refine below_drewN ?_ _) | (refine Below.drew ?_) | (refine Below.setCell ?_ (by simp; try omega) _) | (refine Below.alloc ?_ (by simp; try omega) _) | (refine Below.trans ?_ (Below.mono (by assumption) (by simp; try omega)))))⟩
    | true =>
      go_enter Try.func27, Try.ntmps27
      go_wp2_with (go_at_call 38; refine (sameNumber_b (by assumption) (by assumption) _).mono ?_; rintro e w' ⟨rfl, n, rfl⟩)
      go_ret
      exact ⟨ret_bool (by unfold sameC3; rw [q0, q1]; rfl), by (repeat (first | exact Below.refl _ _ | (refine below_drewN ?_ _) | (refine Below.drew ?_) | (refine Below.setCell ?_ (by simp; try omega) _) | (refine Below.alloc ?_ (by simp; try omega) _) | (refine Below.trans ?_ (Below.mono (by assumption) (by simp; try omega)))))⟩

set_option maxRecDepth 10000 in
theorem c_spec_l01VSame {ax ay az rx ry rz : Nat} {Ca Cb : V3} (ha : Fv3 ax ay az Ca) (hb : Fv3 rx ry rz Cb) (w : World) : Calls Try.prog 37 #[vec ax ay az, vec rx ry rz] w (RetB (sameC3 Ca Cb) w) := by
  obtain ⟨hax, hay, haz⟩ := ha
  obtain ⟨hbx, hby, hbz⟩ := hb
  cases q0 : sameB Ca.x Cb.x with
  | false =>
    go_enter Try.func37, Try.ntmps37
    go_wp2_with (go_at_call 41; refine (l01Same_b (by assumption) (by assumption) _).mono ?_; rintro e w' ⟨rfl, n, rfl⟩)
    go_ret
    exact ⟨ret_bool (by unfold sameC3; rw [q0]; rfl), by (repeat (first | exact Below.refl _ _ | (refine below_drewN ?_ _) | (refine Below.drew ?_) | (refine Below.setCell ?_ (by simp; try omega) _) | (refine Below.alloc ?_ (by simp; try omega) _) | (refine Below.trans ?_ (Below.mono (by assumption) (by simp; try omega)))))⟩
  | true =>
    cases q1 : sameB Ca.y Cb.y with
    | false =>
      go_enter Try.func37, Try.ntmps37
      go_wp2_with (go_at_call 41; refine (l01Same_b (by assumption) (by assumption) _).mono ?_; rintro e w' ⟨rfl, n, rfl⟩)
      go_ret
      exact ⟨ret_bool (by unfold sameC3; rw [q0, q1]; rfl), by (repeat (first | exact Below.refl _ _ | (refine below_drewN ?_ _) | (refine Below.drew ?_) | (refine Below.setCell ?_ (by simp; try omega) _) | (refine Below.alloc ?_ (by simp; try omega) _) | (refine Below.trans ?_ (Below.mono (by assumption) (by simp; try omega)))))⟩
    | true =>
      go_enter Try.func37, Try.ntmps37
      go_wp2_with (go_at_call 41; refine (l01Same_b (by assumption) (by assumption) _).mono ?_; rintro e w' ⟨rfl, n, rfl⟩)
      go_ret
      exact ⟨ret_bool (by unfold sameC3; rw [q0, q1]; rfl), by (repeat (first | exact Below.refl _ _ | (refine below_drewN ?_ _) | (refine Below.drew ?_) | (refine Below.setCell ?_ (by simp; try omega) _) | (refine Below.alloc ?_ (by simp; try omega) _) | (refine Below.trans ?_ (Below.mono (by assumption) (by simp; try omega)))))⟩



theorem c_spec_SameVector {ax ay az rx ry rz : Nat} {Ca Cb : V3} (ha : Fv3 ax ay az Ca) (hb : Fv3 rx ry rz Cb) (w : World) : Calls Try.prog 26 #[vec ax ay az, vec rx ry rz] w (RetB (sameC3 Ca Cb) w) := by
  go_enter Try.func26, Try.ntmps26
  go_wp2_with (go_at_call 37; refine (c_spec_l01VSame ha hb _).mono ?_; rintro e w' ⟨rfl, hb⟩; obtain ⟨hc, hf⟩ := bcell hb)
  go_ret
  exact ⟨rfl, by (repeat (first | exact Below.refl _ _ | (refine below_drewN ?_ _) | (refine Below.drew ?_) | (refine Below.setCell ?_ (by simp; try omega) _) | (refine Below.alloc ?_ (by simp; try omega) _) | (refine Below.trans ?_ (Below.mono (by assumption) (by simp; try omega)))))⟩


end Go.Proofs.Yteefiihliepbgaa
