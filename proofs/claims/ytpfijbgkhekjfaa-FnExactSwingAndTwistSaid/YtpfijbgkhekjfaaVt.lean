/-
  The turn of the length 1, and the axis of a turn. No condition.
-/
import Derived.Test.YtpfijbgkhekjfaaVq
import Derived.Test.YtpfijbgkhekjfaaVf
set_option linter.unusedVariables false
namespace Go.Proofs.Ytpfijbgkhekjfaa
open Go.RowKit Go.Proofs.Ytpfijbgkhekjfaa.Fl

/-- A number that is finite and not zero; less than zero. -/
def eqB (c : Option Nat) : Bool := ford .f32 c (some 0) == some .eq
def lenB (c : Option Nat) : Bool := finB c && !eqB c
def ltB (c : Option Nat) : Bool := ford .f32 c (some 0) == some .lt

theorem c_impl_isLength {x : Nat} {c : Option Nat} (h : Fv .f32 x c) (w : World) : Calls Try.prog 61 #[.float .f32 x] w (RetB (lenB c) w) := by
  cases q1 : finB c <;> cases q2 : eqB c <;> (
    have hq : (FloatKind.f32.format.order x 0 == some .eq) = eqB c := by rw [order_fv h (fvc rfl : Fv .f32 0 (some 0))]; rfl
    rw [q2] at hq
    go_enter Try.func61, Try.ntmps61
    go_wp2_with (go_at_call 41; refine (isFinite_impl _ _ h _).mono ?_; rintro e w' ⟨rfl, n, rfl⟩; rw [q1])
    go_ret
    exact ⟨ret_bool (by unfold lenB; rw [q1, q2]; simp_all), by (repeat (first | exact Below.refl _ _ | (refine below_drewN ?_ _) | (refine Below.drew ?_) | (refine Below.setCell ?_ (by first | omega | (simp; try omega)) _) | (refine Below.alloc ?_ (by first | omega | (simp; try omega)) _) | (refine Below.trans ?_ (Below.mono (by assumption) (by first | omega | (simp; try omega))))))⟩)

theorem c_spec_l01Finite {x : Nat} {c : Option Nat} (h : Fv .f32 x c) (w : World) : Calls Try.prog 76 #[.float .f32 x] w (RetB (finB c) w) :=
  (l01Finite_spec x c h w).mono fun e w' ⟨he, n, hw⟩ => ⟨he, by subst hw; exact below_drewN (Below.refl _ _) _⟩

/-- The turn of the length 1. -/
def overTC (t : V4) (n : Option Nat) : V4 := ⟨D t.w n, D t.x n, D t.y n, D t.z n⟩
def mendC (t : V4) : V4 := match lenB (longTC t) with
  | true => overTC t (longTC t)
  | false => noC
def oppIf (t : V4) (i : Option Nat) : V4 := match ltB i with
  | true => oppC t
  | false => t
def zAxisC : V3 := ⟨some 0, some 0, some 1065353216⟩
def axisOfC (t : V4) : V3 := match lenB (longC (axisC t)) with
  | true => overC (axisC (oppIf t t.w)) (longC (axisC t))
  | false => zAxisC

set_option maxHeartbeats 4000000 in
set_option maxRecDepth 20000 in
theorem c_impl_MendTurn {tw tx ty tz : Nat} {Ct : V4} (ht : Fv4 tw tx ty tz Ct) (w : World) : Calls Try.prog 31 #[turn tw tx ty tz] w (RetT (mendC Ct) w) := by
  cases q1 : lenB (longTC Ct) with
  | false =>
    have hcls : mendC Ct = noC := by unfold mendC; simp [q1]
    rw [hcls]; clear hcls
    go_enter Try.func31, Try.ntmps31
    go_upto_region 1 with fail
    refine wp_name (fun wr => HasF4 wr w.heap.size tw tx ty tz ∧ HasF4 wr (w.heap.size + 1) 0 0 0 0 ∧ Below w.heap.size w wr) ⟨⟨⟨by go_simp, by go_simp, by go_simp, by go_simp⟩, fun o => by go_simp⟩, ⟨⟨by go_simp, by go_simp, by go_simp, by go_simp⟩, fun o => by go_simp⟩, by (repeat (first | exact Below.refl _ _ | (refine below_drewN ?_ _) | (refine Below.drew ?_) | (refine Below.setCell ?_ (by first | omega | (simp; try omega)) _) | (refine Below.alloc ?_ (by first | omega | (simp; try omega)) _) | (refine Below.trans ?_ (Below.mono (by assumption) (by first | omega | (simp; try omega))))))⟩ ?_
    rintro W1 ⟨hp0, hp1, hbel⟩
    have LW1hp0 := hp0.lt; have LW1hp1 := hp1.lt; have SW1 := hbel.size
    obtain ⟨⟨c0_0, c0_1, c0_2, c0_3⟩, fz0⟩ := id hp0
    obtain ⟨⟨c1_0, c1_1, c1_2, c1_3⟩, fz1⟩ := id hp1
    go_wp2_with fail
    refine (c_impl_LengthOfTurn ht _).mono ?_
    rintro e W1c ⟨⟨r1, rfl, hv1⟩, hb⟩
    clear c0_0 c0_1 c0_2 c0_3 c1_0 c1_1 c1_2 c1_3 fz0 fz1
    replace hp0 := hp0.below hb
    replace hp1 := hp1.below hb
    replace hbel := hbel.trans (hb.mono hbel.size)
    clear hb
    have LW1chp0 := hp0.lt; have LW1chp1 := hp1.lt; have SW1c := hbel.size
    obtain ⟨⟨c0_0, c0_1, c0_2, c0_3⟩, fz0⟩ := id hp0
    obtain ⟨⟨c1_0, c1_1, c1_2, c1_3⟩, fz1⟩ := id hp1
    go_upto_region 2 with fail
    clear c0_0 c0_1 c0_2 c0_3 c1_0 c1_1 c1_2 c1_3 fz0 fz1
    obtain ⟨⟨c0_0, c0_1, c0_2, c0_3⟩, fz0⟩ := id hp0
    obtain ⟨⟨c1_0, c1_1, c1_2, c1_3⟩, fz1⟩ := id hp1
    go_wp2_with fail
    refine (c_impl_isLength hv1 _).mono ?_
    rintro e W2c ⟨rfl, hb⟩
    rw [q1]
    clear c0_0 c0_1 c0_2 c0_3 c1_0 c1_1 c1_2 c1_3 fz0 fz1
    replace hp0 := hp0.below hb
    replace hp1 := hp1.below hb
    replace hbel := hbel.trans (hb.mono hbel.size)
    clear hb
    have LW2chp0 := hp0.lt; have LW2chp1 := hp1.lt; have SW2c := hbel.size
    obtain ⟨⟨c0_0, c0_1, c0_2, c0_3⟩, fz0⟩ := id hp0
    obtain ⟨⟨c1_0, c1_1, c1_2, c1_3⟩, fz1⟩ := id hp1
    go_upto_region 3 with fail
    clear c0_0 c0_1 c0_2 c0_3 c1_0 c1_1 c1_2 c1_3 fz0 fz1
    obtain ⟨⟨c0_0, c0_1, c0_2, c0_3⟩, fz0⟩ := id hp0
    obtain ⟨⟨c1_0, c1_1, c1_2, c1_3⟩, fz1⟩ := id hp1
    go_wp2_with fail
    refine (c_impl_NoTurn  _).mono ?_
    rintro e W3c ⟨⟨w3, x3, y3, z3, rfl, hv3⟩, hb⟩
    clear c0_0 c0_1 c0_2 c0_3 c1_0 c1_1 c1_2 c1_3 fz0 fz1
    replace hp0 := hp0.below hb
    replace hp1 := hp1.below hb
    replace hbel := hbel.trans (hb.mono hbel.size)
    clear hb
    have LW3chp0 := hp0.lt; have LW3chp1 := hp1.lt; have SW3c := hbel.size
    obtain ⟨⟨c0_0, c0_1, c0_2, c0_3⟩, fz0⟩ := id hp0
    obtain ⟨⟨c1_0, c1_1, c1_2, c1_3⟩, fz1⟩ := id hp1
    go_wp2_with fail
    apply ret_turn; exact hv3.w; exact hv3.x; exact hv3.y; exact hv3.z; simp [results, Try.results31, go_sem, *]; rfl; (repeat (first | exact Below.refl _ _ | (refine below_drewN ?_ _) | (refine Below.drew ?_) | (refine Below.setCell ?_ (by first | omega | (simp; try omega)) _) | (refine Below.alloc ?_ (by first | omega | (simp; try omega)) _) | (refine Below.trans ?_ (Below.mono (by assumption) (by first | omega | (simp; try omega))))))
  | true =>
    have hcls : mendC Ct = overTC Ct (longTC Ct) := by unfold mendC; simp [q1]
    rw [hcls]; clear hcls
    go_enter Try.func31, Try.ntmps31
    go_upto_region 1 with fail
    refine wp_name (fun wr => HasF4 wr w.heap.size tw tx ty tz ∧ HasF4 wr (w.heap.size + 1) 0 0 0 0 ∧ Below w.heap.size w wr) ⟨⟨⟨by go_simp, by go_simp, by go_simp, by go_simp⟩, fun o => by go_simp⟩, ⟨⟨by go_simp, by go_simp, by go_simp, by go_simp⟩, fun o => by go_simp⟩, by (repeat (first | exact Below.refl _ _ | (refine below_drewN ?_ _) | (refine Below.drew ?_) | (refine Below.setCell ?_ (by first | omega | (simp; try omega)) _) | (refine Below.alloc ?_ (by first | omega | (simp; try omega)) _) | (refine Below.trans ?_ (Below.mono (by assumption) (by first | omega | (simp; try omega))))))⟩ ?_
    rintro W1 ⟨hp0, hp1, hbel⟩
    have LW1hp0 := hp0.lt; have LW1hp1 := hp1.lt; have SW1 := hbel.size
    obtain ⟨⟨c0_0, c0_1, c0_2, c0_3⟩, fz0⟩ := id hp0
    obtain ⟨⟨c1_0, c1_1, c1_2, c1_3⟩, fz1⟩ := id hp1
    go_wp2_with fail
    refine (c_impl_LengthOfTurn ht _).mono ?_
    rintro e W1c ⟨⟨r1, rfl, hv1⟩, hb⟩
    clear c0_0 c0_1 c0_2 c0_3 c1_0 c1_1 c1_2 c1_3 fz0 fz1
    replace hp0 := hp0.below hb
    replace hp1 := hp1.below hb
    replace hbel := hbel.trans (hb.mono hbel.size)
    clear hb
    have LW1chp0 := hp0.lt; have LW1chp1 := hp1.lt; have SW1c := hbel.size
    obtain ⟨⟨c0_0, c0_1, c0_2, c0_3⟩, fz0⟩ := id hp0
    obtain ⟨⟨c1_0, c1_1, c1_2, c1_3⟩, fz1⟩ := id hp1
    go_upto_region 2 with fail
    clear c0_0 c0_1 c0_2 c0_3 c1_0 c1_1 c1_2 c1_3 fz0 fz1
    obtain ⟨⟨c0_0, c0_1, c0_2, c0_3⟩, fz0⟩ := id hp0
    obtain ⟨⟨c1_0, c1_1, c1_2, c1_3⟩, fz1⟩ := id hp1
    go_wp2_with fail
    refine (c_impl_isLength hv1 _).mono ?_
    rintro e W2c ⟨rfl, hb⟩
    rw [q1]
    clear c0_0 c0_1 c0_2 c0_3 c1_0 c1_1 c1_2 c1_3 fz0 fz1
    replace hp0 := hp0.below hb
    replace hp1 := hp1.below hb
    replace hbel := hbel.trans (hb.mono hbel.size)
    clear hb
    have LW2chp0 := hp0.lt; have LW2chp1 := hp1.lt; have SW2c := hbel.size
    obtain ⟨⟨c0_0, c0_1, c0_2, c0_3⟩, fz0⟩ := id hp0
    obtain ⟨⟨c1_0, c1_1, c1_2, c1_3⟩, fz1⟩ := id hp1
    go_upto_region 4 with fail
    clear c0_0 c0_1 c0_2 c0_3 c1_0 c1_1 c1_2 c1_3 fz0 fz1
    obtain ⟨⟨c0_0, c0_1, c0_2, c0_3⟩, fz0⟩ := id hp0
    obtain ⟨⟨c1_0, c1_1, c1_2, c1_3⟩, fz1⟩ := id hp1
    go_wp2_with fail
    (with_reducible apply upon_float_bin); exact rfl; exact ht.w; exact hv1; intro r3 n3 hv3; (try rw [World.drewN_drewN]); simp only [Act.put, List.setIfInBounds_toArray, List.set_cons_zero, List.set_cons_succ]
    go_wp2_with fail
    (with_reducible apply upon_float_bin); exact rfl; exact ht.x; exact hv1; intro r4 n4 hv4; (try rw [World.drewN_drewN]); simp only [Act.put, List.setIfInBounds_toArray, List.set_cons_zero, List.set_cons_succ]
    go_wp2_with fail
    (with_reducible apply upon_float_bin); exact rfl; exact ht.y; exact hv1; intro r5 n5 hv5; (try rw [World.drewN_drewN]); simp only [Act.put, List.setIfInBounds_toArray, List.set_cons_zero, List.set_cons_succ]
    go_wp2_with fail
    (with_reducible apply upon_float_bin); exact rfl; exact ht.z; exact hv1; intro r6 n6 hv6; (try rw [World.drewN_drewN]); simp only [Act.put, List.setIfInBounds_toArray, List.set_cons_zero, List.set_cons_succ]
    go_wp2_with fail
    apply ret_turn; exact hv3; exact hv4; exact hv5; exact hv6; simp [results, Try.results31, go_sem, *]; rfl; (repeat (first | exact Below.refl _ _ | (refine below_drewN ?_ _) | (refine Below.drew ?_) | (refine Below.setCell ?_ (by first | omega | (simp; try omega)) _) | (refine Below.alloc ?_ (by first | omega | (simp; try omega)) _) | (refine Below.trans ?_ (Below.mono (by assumption) (by first | omega | (simp; try omega))))))

set_option maxHeartbeats 4000000 in
set_option maxRecDepth 20000 in
theorem c_spec_l02Mend {tw tx ty tz : Nat} {Ct : V4} (ht : Fv4 tw tx ty tz Ct) (w : World) : Calls Try.prog 50 #[turn tw tx ty tz] w (RetT (mendC Ct) w) := by
  cases q2 : eqB (longTC Ct) with
  | false =>
    cases q3 : finB (longTC Ct) with
    | false =>
      have hcls : mendC Ct = noC := by unfold mendC lenB; simp [q2, q3]
      rw [hcls]; clear hcls
      go_enter Try.func50, Try.ntmps50
      go_upto_region 1 with fail
      refine wp_name (fun wr => HasF4 wr w.heap.size tw tx ty tz ∧ HasF4 wr (w.heap.size + 1) 0 0 0 0 ∧ Below w.heap.size w wr) ⟨⟨⟨by go_simp, by go_simp, by go_simp, by go_simp⟩, fun o => by go_simp⟩, ⟨⟨by go_simp, by go_simp, by go_simp, by go_simp⟩, fun o => by go_simp⟩, by (repeat (first | exact Below.refl _ _ | (refine below_drewN ?_ _) | (refine Below.drew ?_) | (refine Below.setCell ?_ (by first | omega | (simp; try omega)) _) | (refine Below.alloc ?_ (by first | omega | (simp; try omega)) _) | (refine Below.trans ?_ (Below.mono (by assumption) (by first | omega | (simp; try omega))))))⟩ ?_
      rintro W1 ⟨hp0, hp1, hbel⟩
      have LW1hp0 := hp0.lt; have LW1hp1 := hp1.lt; have SW1 := hbel.size
      obtain ⟨⟨c0_0, c0_1, c0_2, c0_3⟩, fz0⟩ := id hp0
      obtain ⟨⟨c1_0, c1_1, c1_2, c1_3⟩, fz1⟩ := id hp1
      go_wp2_with fail
      refine (c_spec_l02Inner ht ht _).mono ?_
      rintro e W1c ⟨⟨r1, rfl, hv1⟩, hb⟩
      clear c0_0 c0_1 c0_2 c0_3 c1_0 c1_1 c1_2 c1_3 fz0 fz1
      replace hp0 := hp0.below hb
      replace hp1 := hp1.below hb
      replace hbel := hbel.trans (hb.mono hbel.size)
      clear hb
      have LW1chp0 := hp0.lt; have LW1chp1 := hp1.lt; have SW1c := hbel.size
      obtain ⟨⟨c0_0, c0_1, c0_2, c0_3⟩, fz0⟩ := id hp0
      obtain ⟨⟨c1_0, c1_1, c1_2, c1_3⟩, fz1⟩ := id hp1
      go_wp2_with fail
      refine (c_spec_l01Sqrt hv1 _).mono ?_
      rintro e W2c ⟨⟨r2, rfl, hv2⟩, hb⟩
      clear c0_0 c0_1 c0_2 c0_3 c1_0 c1_1 c1_2 c1_3 fz0 fz1
      replace hp0 := hp0.below hb
      replace hp1 := hp1.below hb
      replace hbel := hbel.trans (hb.mono hbel.size)
      clear hb
      have LW2chp0 := hp0.lt; have LW2chp1 := hp1.lt; have SW2c := hbel.size
      obtain ⟨⟨c0_0, c0_1, c0_2, c0_3⟩, fz0⟩ := id hp0
      obtain ⟨⟨c1_0, c1_1, c1_2, c1_3⟩, fz1⟩ := id hp1
      go_upto_region 2 with fail
      clear c0_0 c0_1 c0_2 c0_3 c1_0 c1_1 c1_2 c1_3 fz0 fz1
      have hq3 : (FloatKind.f32.format.order r2 0 == some .eq) = false := by rw [order_fv hv2 (fvc rfl : Fv .f32 0 (some 0))]; exact q2
      obtain ⟨⟨c0_0, c0_1, c0_2, c0_3⟩, fz0⟩ := id hp0
      obtain ⟨⟨c1_0, c1_1, c1_2, c1_3⟩, fz1⟩ := id hp1
      go_wp2_with fail
      refine (c_spec_l01Finite hv2 _).mono ?_
      rintro e W4c ⟨rfl, hb⟩
      rw [(show finB (rootC (inner4C Ct Ct)) = false from q3)]
      clear c0_0 c0_1 c0_2 c0_3 c1_0 c1_1 c1_2 c1_3 fz0 fz1
      replace hp0 := hp0.below hb
      replace hp1 := hp1.below hb
      replace hbel := hbel.trans (hb.mono hbel.size)
      clear hb
      have LW4chp0 := hp0.lt; have LW4chp1 := hp1.lt; have SW4c := hbel.size
      obtain ⟨⟨c0_0, c0_1, c0_2, c0_3⟩, fz0⟩ := id hp0
      obtain ⟨⟨c1_0, c1_1, c1_2, c1_3⟩, fz1⟩ := id hp1
      go_upto_region 3 with fail
      clear c0_0 c0_1 c0_2 c0_3 c1_0 c1_1 c1_2 c1_3 fz0 fz1
      obtain ⟨⟨c0_0, c0_1, c0_2, c0_3⟩, fz0⟩ := id hp0
      obtain ⟨⟨c1_0, c1_1, c1_2, c1_3⟩, fz1⟩ := id hp1
      go_wp2_with fail
      refine (c_spec_l02No  _).mono ?_
      rintro e W5c ⟨⟨w5, x5, y5, z5, rfl, hv5⟩, hb⟩
      clear c0_0 c0_1 c0_2 c0_3 c1_0 c1_1 c1_2 c1_3 fz0 fz1
      replace hp0 := hp0.below hb
      replace hp1 := hp1.below hb
      replace hbel := hbel.trans (hb.mono hbel.size)
      clear hb
      have LW5chp0 := hp0.lt; have LW5chp1 := hp1.lt; have SW5c := hbel.size
      obtain ⟨⟨c0_0, c0_1, c0_2, c0_3⟩, fz0⟩ := id hp0
      obtain ⟨⟨c1_0, c1_1, c1_2, c1_3⟩, fz1⟩ := id hp1
      go_wp2_with fail
      apply ret_turn; exact hv5.w; exact hv5.x; exact hv5.y; exact hv5.z; simp [results, Try.results50, go_sem, *]; rfl; (repeat (first | exact Below.refl _ _ | (refine below_drewN ?_ _) | (refine Below.drew ?_) | (refine Below.setCell ?_ (by first | omega | (simp; try omega)) _) | (refine Below.alloc ?_ (by first | omega | (simp; try omega)) _) | (refine Below.trans ?_ (Below.mono (by assumption) (by first | omega | (simp; try omega))))))
    | true =>
      have hcls : mendC Ct = overTC Ct (longTC Ct) := by unfold mendC lenB; simp [q2, q3]
      rw [hcls]; clear hcls
      go_enter Try.func50, Try.ntmps50
      go_upto_region 1 with fail
      refine wp_name (fun wr => HasF4 wr w.heap.size tw tx ty tz ∧ HasF4 wr (w.heap.size + 1) 0 0 0 0 ∧ Below w.heap.size w wr) ⟨⟨⟨by go_simp, by go_simp, by go_simp, by go_simp⟩, fun o => by go_simp⟩, ⟨⟨by go_simp, by go_simp, by go_simp, by go_simp⟩, fun o => by go_simp⟩, by (repeat (first | exact Below.refl _ _ | (refine below_drewN ?_ _) | (refine Below.drew ?_) | (refine Below.setCell ?_ (by first | omega | (simp; try omega)) _) | (refine Below.alloc ?_ (by first | omega | (simp; try omega)) _) | (refine Below.trans ?_ (Below.mono (by assumption) (by first | omega | (simp; try omega))))))⟩ ?_
      rintro W1 ⟨hp0, hp1, hbel⟩
      have LW1hp0 := hp0.lt; have LW1hp1 := hp1.lt; have SW1 := hbel.size
      obtain ⟨⟨c0_0, c0_1, c0_2, c0_3⟩, fz0⟩ := id hp0
      obtain ⟨⟨c1_0, c1_1, c1_2, c1_3⟩, fz1⟩ := id hp1
      go_wp2_with fail
      refine (c_spec_l02Inner ht ht _).mono ?_
      rintro e W1c ⟨⟨r1, rfl, hv1⟩, hb⟩
      clear c0_0 c0_1 c0_2 c0_3 c1_0 c1_1 c1_2 c1_3 fz0 fz1
      replace hp0 := hp0.below hb
      replace hp1 := hp1.below hb
      replace hbel := hbel.trans (hb.mono hbel.size)
      clear hb
      have LW1chp0 := hp0.lt; have LW1chp1 := hp1.lt; have SW1c := hbel.size
      obtain ⟨⟨c0_0, c0_1, c0_2, c0_3⟩, fz0⟩ := id hp0
      obtain ⟨⟨c1_0, c1_1, c1_2, c1_3⟩, fz1⟩ := id hp1
      go_wp2_with fail
      refine (c_spec_l01Sqrt hv1 _).mono ?_
      rintro e W2c ⟨⟨r2, rfl, hv2⟩, hb⟩
      clear c0_0 c0_1 c0_2 c0_3 c1_0 c1_1 c1_2 c1_3 fz0 fz1
      replace hp0 := hp0.below hb
      replace hp1 := hp1.below hb
      replace hbel := hbel.trans (hb.mono hbel.size)
      clear hb
      have LW2chp0 := hp0.lt; have LW2chp1 := hp1.lt; have SW2c := hbel.size
      obtain ⟨⟨c0_0, c0_1, c0_2, c0_3⟩, fz0⟩ := id hp0
      obtain ⟨⟨c1_0, c1_1, c1_2, c1_3⟩, fz1⟩ := id hp1
      go_upto_region 2 with fail
      clear c0_0 c0_1 c0_2 c0_3 c1_0 c1_1 c1_2 c1_3 fz0 fz1
      have hq3 : (FloatKind.f32.format.order r2 0 == some .eq) = false := by rw [order_fv hv2 (fvc rfl : Fv .f32 0 (some 0))]; exact q2
      obtain ⟨⟨c0_0, c0_1, c0_2, c0_3⟩, fz0⟩ := id hp0
      obtain ⟨⟨c1_0, c1_1, c1_2, c1_3⟩, fz1⟩ := id hp1
      go_wp2_with fail
      refine (c_spec_l01Finite hv2 _).mono ?_
      rintro e W4c ⟨rfl, hb⟩
      rw [(show finB (rootC (inner4C Ct Ct)) = true from q3)]
      clear c0_0 c0_1 c0_2 c0_3 c1_0 c1_1 c1_2 c1_3 fz0 fz1
      replace hp0 := hp0.below hb
      replace hp1 := hp1.below hb
      replace hbel := hbel.trans (hb.mono hbel.size)
      clear hb
      have LW4chp0 := hp0.lt; have LW4chp1 := hp1.lt; have SW4c := hbel.size
      obtain ⟨⟨c0_0, c0_1, c0_2, c0_3⟩, fz0⟩ := id hp0
      obtain ⟨⟨c1_0, c1_1, c1_2, c1_3⟩, fz1⟩ := id hp1
      go_upto_region 4 with fail
      clear c0_0 c0_1 c0_2 c0_3 c1_0 c1_1 c1_2 c1_3 fz0 fz1
      obtain ⟨⟨c0_0, c0_1, c0_2, c0_3⟩, fz0⟩ := id hp0
      obtain ⟨⟨c1_0, c1_1, c1_2, c1_3⟩, fz1⟩ := id hp1
      go_wp2_with fail
      (with_reducible apply upon_float_bin); exact rfl; exact ht.w; exact hv2; intro r5 n5 hv5; (try rw [World.drewN_drewN]); simp only [Act.put, List.setIfInBounds_toArray, List.set_cons_zero, List.set_cons_succ]
      go_wp2_with fail
      (with_reducible apply upon_float_bin); exact rfl; exact ht.x; exact hv2; intro r6 n6 hv6; (try rw [World.drewN_drewN]); simp only [Act.put, List.setIfInBounds_toArray, List.set_cons_zero, List.set_cons_succ]
      go_wp2_with fail
      (with_reducible apply upon_float_bin); exact rfl; exact ht.y; exact hv2; intro r7 n7 hv7; (try rw [World.drewN_drewN]); simp only [Act.put, List.setIfInBounds_toArray, List.set_cons_zero, List.set_cons_succ]
      go_wp2_with fail
      (with_reducible apply upon_float_bin); exact rfl; exact ht.z; exact hv2; intro r8 n8 hv8; (try rw [World.drewN_drewN]); simp only [Act.put, List.setIfInBounds_toArray, List.set_cons_zero, List.set_cons_succ]
      go_wp2_with fail
      apply ret_turn; exact hv5; exact hv6; exact hv7; exact hv8; simp [results, Try.results50, go_sem, *]; rfl; (repeat (first | exact Below.refl _ _ | (refine below_drewN ?_ _) | (refine Below.drew ?_) | (refine Below.setCell ?_ (by first | omega | (simp; try omega)) _) | (refine Below.alloc ?_ (by first | omega | (simp; try omega)) _) | (refine Below.trans ?_ (Below.mono (by assumption) (by first | omega | (simp; try omega))))))
  | true =>
    have hcls : mendC Ct = noC := by unfold mendC lenB; simp [q2]
    rw [hcls]; clear hcls
    go_enter Try.func50, Try.ntmps50
    go_upto_region 1 with fail
    refine wp_name (fun wr => HasF4 wr w.heap.size tw tx ty tz ∧ HasF4 wr (w.heap.size + 1) 0 0 0 0 ∧ Below w.heap.size w wr) ⟨⟨⟨by go_simp, by go_simp, by go_simp, by go_simp⟩, fun o => by go_simp⟩, ⟨⟨by go_simp, by go_simp, by go_simp, by go_simp⟩, fun o => by go_simp⟩, by (repeat (first | exact Below.refl _ _ | (refine below_drewN ?_ _) | (refine Below.drew ?_) | (refine Below.setCell ?_ (by first | omega | (simp; try omega)) _) | (refine Below.alloc ?_ (by first | omega | (simp; try omega)) _) | (refine Below.trans ?_ (Below.mono (by assumption) (by first | omega | (simp; try omega))))))⟩ ?_
    rintro W1 ⟨hp0, hp1, hbel⟩
    have LW1hp0 := hp0.lt; have LW1hp1 := hp1.lt; have SW1 := hbel.size
    obtain ⟨⟨c0_0, c0_1, c0_2, c0_3⟩, fz0⟩ := id hp0
    obtain ⟨⟨c1_0, c1_1, c1_2, c1_3⟩, fz1⟩ := id hp1
    go_wp2_with fail
    refine (c_spec_l02Inner ht ht _).mono ?_
    rintro e W1c ⟨⟨r1, rfl, hv1⟩, hb⟩
    clear c0_0 c0_1 c0_2 c0_3 c1_0 c1_1 c1_2 c1_3 fz0 fz1
    replace hp0 := hp0.below hb
    replace hp1 := hp1.below hb
    replace hbel := hbel.trans (hb.mono hbel.size)
    clear hb
    have LW1chp0 := hp0.lt; have LW1chp1 := hp1.lt; have SW1c := hbel.size
    obtain ⟨⟨c0_0, c0_1, c0_2, c0_3⟩, fz0⟩ := id hp0
    obtain ⟨⟨c1_0, c1_1, c1_2, c1_3⟩, fz1⟩ := id hp1
    go_wp2_with fail
    refine (c_spec_l01Sqrt hv1 _).mono ?_
    rintro e W2c ⟨⟨r2, rfl, hv2⟩, hb⟩
    clear c0_0 c0_1 c0_2 c0_3 c1_0 c1_1 c1_2 c1_3 fz0 fz1
    replace hp0 := hp0.below hb
    replace hp1 := hp1.below hb
    replace hbel := hbel.trans (hb.mono hbel.size)
    clear hb
    have LW2chp0 := hp0.lt; have LW2chp1 := hp1.lt; have SW2c := hbel.size
    obtain ⟨⟨c0_0, c0_1, c0_2, c0_3⟩, fz0⟩ := id hp0
    obtain ⟨⟨c1_0, c1_1, c1_2, c1_3⟩, fz1⟩ := id hp1
    go_upto_region 2 with fail
    clear c0_0 c0_1 c0_2 c0_3 c1_0 c1_1 c1_2 c1_3 fz0 fz1
    have hq3 : (FloatKind.f32.format.order r2 0 == some .eq) = true := by rw [order_fv hv2 (fvc rfl : Fv .f32 0 (some 0))]; exact q2
    obtain ⟨⟨c0_0, c0_1, c0_2, c0_3⟩, fz0⟩ := id hp0
    obtain ⟨⟨c1_0, c1_1, c1_2, c1_3⟩, fz1⟩ := id hp1
    go_upto_region 3 with fail
    clear c0_0 c0_1 c0_2 c0_3 c1_0 c1_1 c1_2 c1_3 fz0 fz1
    obtain ⟨⟨c0_0, c0_1, c0_2, c0_3⟩, fz0⟩ := id hp0
    obtain ⟨⟨c1_0, c1_1, c1_2, c1_3⟩, fz1⟩ := id hp1
    go_wp2_with fail
    refine (c_spec_l02No  _).mono ?_
    rintro e W4c ⟨⟨w4, x4, y4, z4, rfl, hv4⟩, hb⟩
    clear c0_0 c0_1 c0_2 c0_3 c1_0 c1_1 c1_2 c1_3 fz0 fz1
    replace hp0 := hp0.below hb
    replace hp1 := hp1.below hb
    replace hbel := hbel.trans (hb.mono hbel.size)
    clear hb
    have LW4chp0 := hp0.lt; have LW4chp1 := hp1.lt; have SW4c := hbel.size
    obtain ⟨⟨c0_0, c0_1, c0_2, c0_3⟩, fz0⟩ := id hp0
    obtain ⟨⟨c1_0, c1_1, c1_2, c1_3⟩, fz1⟩ := id hp1
    go_wp2_with fail
    apply ret_turn; exact hv4.w; exact hv4.x; exact hv4.y; exact hv4.z; simp [results, Try.results50, go_sem, *]; rfl; (repeat (first | exact Below.refl _ _ | (refine below_drewN ?_ _) | (refine Below.drew ?_) | (refine Below.setCell ?_ (by first | omega | (simp; try omega)) _) | (refine Below.alloc ?_ (by first | omega | (simp; try omega)) _) | (refine Below.trans ?_ (Below.mono (by assumption) (by first | omega | (simp; try omega))))))

end Go.Proofs.Ytpfijbgkhekjfaa
