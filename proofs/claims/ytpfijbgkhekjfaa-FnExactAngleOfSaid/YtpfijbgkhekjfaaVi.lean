/-
  The angle functions of float32. No condition.
-/
import Derived.Test.YtpfijbgkhekjfaaVh
set_option linter.unusedVariables false
namespace Go.Proofs.Ytpfijbgkhekjfaa
open Go.RowKit Go.Proofs.Ytpfijbgkhekjfaa.Fl

def eq5 (c : Option Nat) : Bool := ford .f32 c (some 0) == some .eq
def angleC (cy cx : Option Nat) : Option Nat := match finB cx && finB cy with
  | false => none
  | true => match eq5 cx && eq5 cy with
    | true => some 0
    | false => fconv .f64 .f32 (ang3 (fconv .f32 .f64 cy) (fconv .f32 .f64 cx))

theorem c_math_NaN (w : World) : Calls Try.prog 69 #[] w fun e w' => (∃ r, e = .returned (.float .f64 r) ∧ Fv .f64 r none) ∧ ∃ n, w' = w.drewN n := by
  have hy := f64from
  go_enter Try.func69, Try.ntmps69
  go_wp2
  go_ret
  exact ⟨⟨_, rfl, ⟨by decide, cls_none.2 (by decide)⟩⟩, 0, rfl⟩

theorem c_impl_notNumber (w : World) : Calls Try.prog 42 #[] w fun e w' => (∃ r, e = .returned (.float .f32 r) ∧ Fv .f32 r none) ∧ ∃ n, w' = w.drewN n := by
  go_enter Try.func42, Try.ntmps42
  go_wp2_with (first
    | (go_at_call 69; refine (c_math_NaN _).mono ?_; rintro e w' ⟨⟨r2, rfl, hr2⟩, m, rfl⟩)
    | ((with_reducible apply upon_float_conv); exact f64some; exact Try.underlying22; exact hr2; exact fits_none _ _; intro r3 n3 hr3; (try rw [World.drewN_drewN]); simp only [Act.put, List.setIfInBounds_toArray, List.set_cons_zero, List.set_cons_succ]))
  go_ret
  exact ⟨⟨_, rfl, hr3⟩, _, rfl⟩

theorem c_impl_AngleTurns {y x : Nat} {cy cx : Option Nat} (hy : Fv .f32 y cy) (hx : Fv .f32 x cx) (w : World) :
    Calls Try.prog 22 #[.float .f32 y, .float .f32 x] w (RetF .f32 (angleC cy cx) w) := by
  have ex : (FloatKind.f32.format.order x 0 == some .eq) = eq5 cx := by rw [order_fv hx (fvc rfl : Fv .f32 0 (some 0))]; rfl
  have ey : (FloatKind.f32.format.order y 0 == some .eq) = eq5 cy := by rw [order_fv hy (fvc rfl : Fv .f32 0 (some 0))]; rfl
  cases q1 : finB cx with
  | false =>
    have e : angleC cy cx = none := by unfold angleC; rw [q1]; rfl
    rw [e]
    go_enter Try.func22, Try.ntmps22
    go_wp2_with (first
      | (go_at_call 41; refine (isFinite_impl _ _ hx _).mono ?_; rintro e w' ⟨rfl, n, rfl⟩; rw [q1])
      | (go_at_call 42; refine (c_impl_notNumber _).mono ?_; rintro e w' ⟨⟨r2, rfl, hr2⟩, m, rfl⟩))
    go_ret
    exact ⟨⟨_, rfl, hr2⟩, by (repeat (first | exact Below.refl _ _ | (refine below_drewN ?_ _) | (refine Below.drew ?_) | (refine Below.setCell ?_ (by first | omega | (simp; try omega)) _) | (refine Below.alloc ?_ (by first | omega | (simp; try omega)) _) | (refine Below.trans ?_ (Below.mono (by assumption) (by first | omega | (simp; try omega))))))⟩
  | true =>
    cases q2 : finB cy with
    | false =>
      have e : angleC cy cx = none := by unfold angleC; rw [q1, q2]; rfl
      rw [e]
      go_enter Try.func22, Try.ntmps22
      go_wp2_with fail
      refine (isFinite_impl _ _ hx _).mono ?_; rintro e w' ⟨rfl, n, rfl⟩; rw [q1]
      go_wp2_with fail
      refine (isFinite_impl _ _ hy _).mono ?_; rintro e w' ⟨rfl, n, rfl⟩; rw [q2]
      go_wp2_with fail
      refine (c_impl_notNumber _).mono ?_; rintro e w' ⟨⟨r2, rfl, hr2⟩, m, rfl⟩
      go_wp2_with fail
      go_ret
      exact ⟨⟨_, rfl, hr2⟩, by (repeat (first | exact Below.refl _ _ | (refine below_drewN ?_ _) | (refine Below.drew ?_) | (refine Below.setCell ?_ (by first | omega | (simp; try omega)) _) | (refine Below.alloc ?_ (by first | omega | (simp; try omega)) _) | (refine Below.trans ?_ (Below.mono (by assumption) (by first | omega | (simp; try omega))))))⟩
    | true =>
      have hfit := fun hz => fits_ang hy hx q2 q1 hz
      rw [eq_widen hx, eq_widen hy] at hfit
      change ((eq5 cx && eq5 cy) = false) → _ at hfit
      cases q3 : eq5 cx <;> cases q4 : eq5 cy <;> rw [q3] at ex hfit <;> rw [q4] at ey hfit <;> first
        | (have e : angleC cy cx = some 0 := by unfold angleC; rw [q1, q2, q3, q4]; rfl
           rw [e]
           go_enter Try.func22, Try.ntmps22
           go_wp2_with fail
           refine (isFinite_impl _ _ hx _).mono ?_; rintro e w' ⟨rfl, n, rfl⟩; rw [q1]
           go_wp2_with fail
           refine (isFinite_impl _ _ hy _).mono ?_; rintro e w' ⟨rfl, n, rfl⟩; rw [q2]
           go_wp2_with fail
           go_ret
           exact ⟨⟨_, rfl, (fvc rfl : Fv .f32 0 (some 0))⟩, by (repeat (first | exact Below.refl _ _ | (refine below_drewN ?_ _) | (refine Below.drew ?_) | (refine Below.setCell ?_ (by first | omega | (simp; try omega)) _) | (refine Below.alloc ?_ (by first | omega | (simp; try omega)) _) | (refine Below.trans ?_ (Below.mono (by assumption) (by first | omega | (simp; try omega))))))⟩)
        | (have e : angleC cy cx = fconv .f64 .f32 (ang3 (fconv .f32 .f64 cy) (fconv .f32 .f64 cx)) := by unfold angleC; rw [q1, q2, q3, q4]; rfl
           rw [e]
           replace hfit := hfit rfl
           go_enter Try.func22, Try.ntmps22
           go_wp2_with fail
           refine (isFinite_impl _ _ hx _).mono ?_; rintro e w' ⟨rfl, n, rfl⟩; rw [q1]
           go_wp2_with fail
           refine (isFinite_impl _ _ hy _).mono ?_; rintro e w' ⟨rfl, n, rfl⟩; rw [q2]
           go_wp2_with fail
           (with_reducible apply upon_float_conv); exact f32some; exact Try.underlying44; exact hy; exact fits_widen hy; intro r5 n5 hr5; (try rw [World.drewN_drewN]); simp only [Act.put, List.setIfInBounds_toArray, List.set_cons_zero, List.set_cons_succ]
           go_wp2_with fail
           (with_reducible apply upon_float_conv); exact f32some; exact Try.underlying44; exact hx; exact fits_widen hx; intro r6 n6 hr6; (try rw [World.drewN_drewN]); simp only [Act.put, List.setIfInBounds_toArray, List.set_cons_zero, List.set_cons_succ]
           go_wp2_with fail
           refine (c_impl_wideAngle hr5 hr6 _).mono ?_; rintro e w' ⟨⟨r7, rfl, hr7⟩, m, rfl⟩
           go_wp2_with fail
           (with_reducible apply upon_float_conv); exact f64some; exact Try.underlying22; exact hr7; exact hfit; intro r8 n8 hr8; (try rw [World.drewN_drewN]); simp only [Act.put, List.setIfInBounds_toArray, List.set_cons_zero, List.set_cons_succ]
           go_wp2_with fail
           go_ret
           exact ⟨⟨_, rfl, hr8⟩, by (repeat (first | exact Below.refl _ _ | (refine below_drewN ?_ _) | (refine Below.drew ?_) | (refine Below.setCell ?_ (by first | omega | (simp; try omega)) _) | (refine Below.alloc ?_ (by first | omega | (simp; try omega)) _) | (refine Below.trans ?_ (Below.mono (by assumption) (by first | omega | (simp; try omega))))))⟩)

theorem angleWide_nan {y x : Nat} {Cy Cx : Option Nat} (hy : Fv .f64 y Cy) (hx : Fv .f64 x Cx) (hf : (fin6 Cy && fin6 Cx) = false) (w : World) :
    Calls Try.prog 68 #[.float .f64 y, .float .f64 x] w fun e w' => (∃ r, e = .returned (.float .f64 r) ∧ Fv .f64 r none) ∧ ∃ n, w' = w.drewN n := by
  cases fy : fin6 Cy with
  | false =>
    go_enter Try.func68, Try.ntmps68
    go_wp2_with fail
    (with_reducible apply upon_float_bin); exact rfl; exact hy; exact hy; intro r1 n1 h1; (try rw [World.drewN_drewN]); simp only [Act.put, List.setIfInBounds_toArray, List.set_cons_zero, List.set_cons_succ]
    have o1 : (FloatKind.f64.format.order r1 0 == some .eq) = false := by rw [order_fv h1 (fvc rfl : Fv .f64 0 (some 0))]; exact fy
    have o1' : (FloatKind.f64.format.order r1 0 != some .eq) = true := by rw [bne, o1]; rfl
    go_wp2_with fail
    refine (c_math_NaN _).mono ?_; rintro e w' ⟨⟨r2, rfl, hr2⟩, m, rfl⟩
    go_wp2_with fail
    go_ret
    exact ⟨⟨_, rfl, hr2⟩, _, rfl⟩
  | true =>
    have fx : fin6 Cx = false := by rw [fy] at hf; exact hf
    go_enter Try.func68, Try.ntmps68
    go_wp2_with fail
    (with_reducible apply upon_float_bin); exact rfl; exact hy; exact hy; intro r1 n1 h1; (try rw [World.drewN_drewN]); simp only [Act.put, List.setIfInBounds_toArray, List.set_cons_zero, List.set_cons_succ]
    have o1 : (FloatKind.f64.format.order r1 0 == some .eq) = true := by rw [order_fv h1 (fvc rfl : Fv .f64 0 (some 0))]; exact fy
    have o1' : (FloatKind.f64.format.order r1 0 != some .eq) = false := by rw [bne, o1]; rfl
    go_wp2_with fail
    (with_reducible apply upon_float_bin); exact rfl; exact hx; exact hx; intro r2 n2 h2; (try rw [World.drewN_drewN]); simp only [Act.put, List.setIfInBounds_toArray, List.set_cons_zero, List.set_cons_succ]
    have o2 : (FloatKind.f64.format.order r2 0 == some .eq) = false := by rw [order_fv h2 (fvc rfl : Fv .f64 0 (some 0))]; exact fx
    have o2' : (FloatKind.f64.format.order r2 0 != some .eq) = true := by rw [bne, o2]; rfl
    go_wp2_with fail
    refine (c_math_NaN _).mono ?_; rintro e w' ⟨⟨r3, rfl, hr3⟩, m, rfl⟩
    go_wp2_with fail
    go_ret
    exact ⟨⟨_, rfl, hr3⟩, _, rfl⟩

theorem angleWide_zero {y x : Nat} {Cy Cx : Option Nat} (hy : Fv .f64 y Cy) (hx : Fv .f64 x Cx) (fy : fin6 Cy = true) (fx : fin6 Cx = true) (zx : eq6 Cx = true) (zy : eq6 Cy = true) (w : World) :
    Calls Try.prog 68 #[.float .f64 y, .float .f64 x] w fun e w' => (∃ r, e = .returned (.float .f64 r) ∧ Fv .f64 r (some 0)) ∧ ∃ n, w' = w.drewN n := by
  have ex : (FloatKind.f64.format.order x 0 == some .eq) = true := by rw [order_fv hx (fvc rfl : Fv .f64 0 (some 0))]; exact zx
  have ey : (FloatKind.f64.format.order y 0 == some .eq) = true := by rw [order_fv hy (fvc rfl : Fv .f64 0 (some 0))]; exact zy
  go_enter Try.func68, Try.ntmps68
  go_wp2_with fail
  (with_reducible apply upon_float_bin); exact rfl; exact hy; exact hy; intro r1 n1 h1; (try rw [World.drewN_drewN]); simp only [Act.put, List.setIfInBounds_toArray, List.set_cons_zero, List.set_cons_succ]
  have o1 : (FloatKind.f64.format.order r1 0 == some .eq) = true := by rw [order_fv h1 (fvc rfl : Fv .f64 0 (some 0))]; exact fy
  have o1' : (FloatKind.f64.format.order r1 0 != some .eq) = false := by rw [bne, o1]; rfl
  go_wp2_with fail
  (with_reducible apply upon_float_bin); exact rfl; exact hx; exact hx; intro r2 n2 h2; (try rw [World.drewN_drewN]); simp only [Act.put, List.setIfInBounds_toArray, List.set_cons_zero, List.set_cons_succ]
  have o2 : (FloatKind.f64.format.order r2 0 == some .eq) = true := by rw [order_fv h2 (fvc rfl : Fv .f64 0 (some 0))]; exact fx
  have o2' : (FloatKind.f64.format.order r2 0 != some .eq) = false := by rw [bne, o2]; rfl
  go_wp2_with fail
  go_ret
  exact ⟨⟨_, rfl, (fvc rfl : Fv .f64 0 (some 0))⟩, _, rfl⟩

theorem c_spec_l01Narrow {x : Nat} {c : Option Nat} (h : Fv .f64 x c) (hfit : Fits .f64 .f32 c) (w : World) :
    Calls Try.prog 67 #[.float .f64 x] w fun e w' => (∃ r, e = .returned (.float .f32 r) ∧ Fv .f32 r (fconv .f64 .f32 c)) ∧ ∃ n, w' = w.drewN n := by
  go_enter Try.func67, Try.ntmps67
  go_wp2_with ((with_reducible apply upon_float_conv); exact f64some; exact Try.underlying22; assumption; assumption; intro r3 n3 hr3; (try rw [World.drewN_drewN]); simp only [Act.put, List.setIfInBounds_toArray, List.set_cons_zero, List.set_cons_succ])
  go_ret
  exact ⟨⟨_, rfl, hr3⟩, _, rfl⟩

theorem angle_of {y x : Nat} {cy cx C : Option Nat} (hy : Fv .f32 y cy) (hx : Fv .f32 x cx) (hfit : Fits .f64 .f32 C)
    (hw : ∀ {r s : Nat} (w : World), Fv .f64 r (fconv .f32 .f64 cy) → Fv .f64 s (fconv .f32 .f64 cx) → Calls Try.prog 68 #[.float .f64 r, .float .f64 s] w fun e w' => (∃ r, e = .returned (.float .f64 r) ∧ Fv .f64 r C) ∧ ∃ n, w' = w.drewN n) (w : World) :
    Calls Try.prog 40 #[.float .f32 y, .float .f32 x] w (RetF .f32 (fconv .f64 .f32 C) w) := by
  go_enter Try.func40, Try.ntmps40
  go_wp2_with fail
  (with_reducible apply upon_float_conv); exact f32some; exact Try.underlying44; exact hy; exact fits_widen hy; intro r5 n5 hr5; (try rw [World.drewN_drewN]); simp only [Act.put, List.setIfInBounds_toArray, List.set_cons_zero, List.set_cons_succ]
  go_wp2_with fail
  (with_reducible apply upon_float_conv); exact f32some; exact Try.underlying44; exact hx; exact fits_widen hx; intro r6 n6 hr6; (try rw [World.drewN_drewN]); simp only [Act.put, List.setIfInBounds_toArray, List.set_cons_zero, List.set_cons_succ]
  go_wp2_with fail
  refine (hw _ hr5 hr6).mono ?_; rintro e w' ⟨⟨r7, rfl, hr7⟩, m, rfl⟩
  go_wp2_with fail
  refine (c_spec_l01Narrow hr7 hfit _).mono ?_; rintro e w' ⟨⟨r8, rfl, hr8⟩, m, rfl⟩
  go_wp2_with fail
  go_ret
  exact ⟨⟨_, rfl, hr8⟩, by (repeat (first | exact Below.refl _ _ | (refine below_drewN ?_ _) | (refine Below.drew ?_) | (refine Below.setCell ?_ (by first | omega | (simp; try omega)) _) | (refine Below.alloc ?_ (by first | omega | (simp; try omega)) _) | (refine Below.trans ?_ (Below.mono (by assumption) (by first | omega | (simp; try omega))))))⟩

theorem c_spec_l01Angle {y x : Nat} {cy cx : Option Nat} (hy : Fv .f32 y cy) (hx : Fv .f32 x cx) (w : World) :
    Calls Try.prog 40 #[.float .f32 y, .float .f32 x] w (RetF .f32 (angleC cy cx) w) := by
  have wy := fin_widen hy
  have wx := fin_widen hx
  have zy : eq6 (fconv .f32 .f64 cy) = eq5 cy := eq_widen hy
  have zx : eq6 (fconv .f32 .f64 cx) = eq5 cx := eq_widen hx
  cases q1 : finB cx && finB cy with
  | false =>
    have e : angleC cy cx = fconv .f64 .f32 none := by unfold angleC; rw [q1]; rfl
    rw [e]
    refine angle_of hy hx (fits_none _ _) (fun w' hr hs => angleWide_nan hr hs ?_ w') w
    rw [wy, wx, Bool.and_comm]; exact q1
  | true =>
    have f1 : finB cx = true := by revert q1; cases finB cx <;> simp
    have f2 : finB cy = true := by revert q1; cases finB cx <;> simp
    cases q2 : eq5 cx && eq5 cy with
    | true =>
      have g1 : eq5 cx = true := by revert q2; cases eq5 cx <;> simp
      have g2 : eq5 cy = true := by revert q2; cases eq5 cx <;> simp
      have e : angleC cy cx = fconv .f64 .f32 (some 0) := by unfold angleC; rw [q1, q2]; exact (by decide +kernel : (some 0 : Option Nat) = fconv .f64 .f32 (some 0))
      rw [e]
      exact angle_of hy hx (fits_narrow (P := 1023) (by omega) (bd_zero _)) (fun w' hr hs => angleWide_zero hr hs (wy.trans f2) (wx.trans f1) (zx.trans g1) (zy.trans g2) w') w
    | false =>
      have hz : (eq6 (fconv .f32 .f64 cx) && eq6 (fconv .f32 .f64 cy)) = false := by rw [zx, zy]; exact q2
      have e : angleC cy cx = fconv .f64 .f32 (ang3 (fconv .f32 .f64 cy) (fconv .f32 .f64 cx)) := by unfold angleC; rw [q1, q2]
      rw [e]
      exact angle_of hy hx (fits_ang hy hx f2 f1 hz) (fun w' hr hs => c_spec_l01AngleWide hr hs (wy.trans f2) (wx.trans f1) hz w') w

theorem c_spec_AngleTurns {y x : Nat} {cy cx : Option Nat} (hy : Fv .f32 y cy) (hx : Fv .f32 x cx) (w : World) :
    Calls Try.prog 21 #[.float .f32 y, .float .f32 x] w (RetF .f32 (angleC cy cx) w) := by
  go_enter Try.func21, Try.ntmps21
  go_wp2_with (go_at_call 40; refine (c_spec_l01Angle hy hx _).mono ?_; rintro e w' ⟨⟨r2, rfl, h1⟩, hb⟩; obtain ⟨hc, hf⟩ := bcell hb; have hs := hb.size; (try simp at hs))
  go_ret
  exact ⟨⟨_, rfl, h1⟩, by (repeat (first | exact Below.refl _ _ | (refine below_drewN ?_ _) | (refine Below.drew ?_) | (refine Below.setCell ?_ (by first | omega | (simp; try omega)) _) | (refine Below.alloc ?_ (by first | omega | (simp; try omega)) _) | (refine Below.trans ?_ (Below.mono (by assumption) (by first | omega | (simp; try omega))))))⟩

end Go.Proofs.Ytpfijbgkhekjfaa
