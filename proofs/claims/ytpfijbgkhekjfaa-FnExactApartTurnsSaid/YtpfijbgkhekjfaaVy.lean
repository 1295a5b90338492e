/-
  How far a turn turns. No condition.
-/
import Derived.Test.YtpfijbgkhekjfaaVi
import Derived.Test.YtpfijbgkhekjfaaVm
import Derived.Test.YtpfijbgkhekjfaaVf
set_option linter.unusedVariables false
namespace Go.Proofs.Ytpfijbgkhekjfaa
open Go.RowKit Go.Proofs.Ytpfijbgkhekjfaa.Fl

def angleOfC (t : V4) : Option Nat := M (some 1073741824) (angleC (longC (axisC t)) (fabs .f32 t.w))
def apartC (s t : V4) : Option Nat := angleOfC (mulC (invC s) t)

theorem c_impl_size {x : Nat} {c : Option Nat} (h : Fv .f32 x c) (w : World) : Calls Try.prog 46 #[.float .f32 x] w (RetF .f32 (fabs .f32 c) w) := by
  obtain ⟨hfit, he⟩ := narrow_widen h.abs
  rw [← fabs_widen h] at hfit he
  rw [← he]
  clear he
  go_enter Try.func46, Try.ntmps46
  go_wp2_with (first
    | ((with_reducible apply upon_float_conv); exact f32some; exact Try.underlying44; assumption; exact fits_widen (by assumption); intro r n hr; (try rw [World.drewN_drewN]); simp only [Act.put, List.setIfInBounds_toArray, List.set_cons_zero, List.set_cons_succ])
    | (go_at_call 70; refine (c_math_Abs hr _).mono ?_; rintro e w' ⟨⟨r2, rfl, hr2⟩, m, rfl⟩)
    | ((with_reducible apply upon_float_conv); exact f64some; exact Try.underlying22; exact hr2; exact hfit; intro r3 n3 hr3; (try rw [World.drewN_drewN]); simp only [Act.put, List.setIfInBounds_toArray, List.set_cons_zero, List.set_cons_succ]))
  go_ret
  exact ⟨⟨_, rfl, hr3⟩, by (repeat (first | exact Below.refl _ _ | (refine below_drewN ?_ _) | (refine Below.drew ?_) | (refine Below.setCell ?_ (by first | omega | (simp; try omega)) _) | (refine Below.alloc ?_ (by first | omega | (simp; try omega)) _) | (refine Below.trans ?_ (Below.mono (by assumption) (by first | omega | (simp; try omega))))))⟩

theorem l01From_any (n : Int) (w : World) :
    Calls Try.prog 81 #[.int .i64 n] w fun e w' => e = .returned (.float .f32 (n % 4294967296).toNat) ∧ ∃ m, w' = w.drewN m := by
  have hx := f32from
  go_enter Try.func81, Try.ntmps81
  go_wp2
  go_ret
  exact ⟨rfl, 0, rfl⟩

theorem c_spec_l02Size {x : Nat} {c : Option Nat} (h : Fv .f32 x c) (w : World) : Calls Try.prog 73 #[.float .f32 x] w (RetF .f32 (fabs .f32 c) w) := by
  have key : Fv .f32 (bits .andNot .i64 (bitsC c) 2147483648 % 4294967296).toNat (fabs .f32 c) := by
    cases c with
    | none => exact ⟨by decide +kernel, by decide +kernel⟩
    | some b =>
      obtain rfl := (cls_some.1 h.is).2
      have e1 : (bits .andNot .i64 (bitsC (some x)) 2147483648 % 4294967296).toNat = rung Ieee.single x := by
        show (bits .andNot .i64 (x : Int) 2147483648 % 4294967296).toNat = _
        rw [andNot_top x h.lt]
        show _ = x % 2 ^ 31
        omega
      rw [e1]
      exact h.abs
  go_enter Try.func73, Try.ntmps73
  go_wp2_with (first | (go_at_call 82; refine (l01Bits_spec _ _ h _).mono ?_; rintro e w' ⟨rfl, n, rfl⟩) | (go_at_call 81; refine (l01From_any _ _).mono ?_; rintro e w' ⟨rfl, m, rfl⟩))
  go_ret
  exact ⟨⟨_, rfl, key⟩, by (repeat (first | exact Below.refl _ _ | (refine below_drewN ?_ _) | (refine Below.drew ?_) | (refine Below.setCell ?_ (by first | omega | (simp; try omega)) _) | (refine Below.alloc ?_ (by first | omega | (simp; try omega)) _) | (refine Below.trans ?_ (Below.mono (by assumption) (by first | omega | (simp; try omega))))))⟩

set_option maxHeartbeats 40000000 in
set_option maxRecDepth 20000 in
theorem c_impl_AngleOf {tw tx ty tz : Nat} {Ct : V4} (ht : Fv4 tw tx ty tz Ct) (w : World) : Calls Try.prog 25 #[turn tw tx ty tz] w (RetF .f32 (angleOfC Ct) w) := by
  go_enter Try.func25, Try.ntmps25
  go_upto_region 1 with fail
  refine wp_name (fun wr => HasF4 wr w.heap.size tw tx ty tz ∧ Below w.heap.size w wr) ⟨⟨⟨by go_simp, by go_simp, by go_simp, by go_simp⟩, fun o => by go_simp⟩, by (repeat (first | exact Below.refl _ _ | (refine below_drewN ?_ _) | (refine Below.drew ?_) | (refine Below.setCell ?_ (by first | omega | (simp; try omega)) _) | (refine Below.alloc ?_ (by first | omega | (simp; try omega)) _) | (refine Below.trans ?_ (Below.mono (by assumption) (by first | omega | (simp; try omega))))))⟩ ?_
  rintro W1 ⟨hp0, hbel⟩
  have LW1hp0 := hp0.lt; have SW1 := hbel.size
  refine wp_region_drawn [(3, isV (turn tw tx ty tz)), (4, isVec (axisC (Ct))), (5, isFlt .f32 (longC (axisC (Ct)))), (6, isV (.pointer (some ⟨w.heap.size, 0, none⟩))), (7, isV (.float .f32 tw)), (8, isFlt .f32 (fabs .f32 ((Ct).w))), (9, isFlt .f32 (angleC (longC (axisC (Ct))) (fabs .f32 ((Ct).w)))), (10, isFlt .f32 (M (some 1073741824) (angleC (longC (axisC (Ct))) (fabs .f32 ((Ct).w)))))]
    (fun wr => HasF4 wr w.heap.size tw tx ty tz ∧ Below W1.heap.size W1 wr)
    (by kernel_rfl) (by kernel_rfl) (by kernel_rfl) (by kernel_rfl) (Nat.le_of_ble_eq_true (by kernel_rfl)) (by kernel_rfl) ?_ (fun _ _ hb h => ⟨h.1.below hb, h.2.trans (hb.mono h.2.size)⟩) ⟨hp0, (Below.refl _ _).drew⟩ ?_ ?_
  · intro p hp
    simp only [List.mem_cons, List.not_mem_nil, or_false] at hp
    rcases hp with rfl | rfl | rfl | rfl | rfl | rfl | rfl | rfl <;> first | exact mono_isV _ | exact mono_isVec _ | exact mono_isTurn _ | exact mono_isFlt _ _ | exact mono_isOwn3 _ | exact mono_isOwn4 _
  · intro i o hi ho f w1 hI hdep
    simp only [List.map_cons, List.map_nil, mix, List.contains_cons, List.contains_nil, Nat.reduceBEq, Bool.or_true, Bool.or_false, Bool.false_eq_true, if_true, if_false, Nat.reduceAdd, Nat.zero_add]
    have hcase : i = 0 ∨ i = 1 ∨ i = 2 ∨ i = 3 ∨ i = 4 ∨ i = 5 ∨ i = 6 ∨ i = 7 := by simp at hi; omega
    obtain ⟨⟨⟨c0_0, c0_1, c0_2, c0_3⟩, fz0⟩, hb1⟩ := hI
    have hsz := hb1.size
    rcases hcase with rfl | rfl | rfl | rfl | rfl | rfl | rfl | rfl
    · obtain rfl := Option.some.inj ho
      clear hdep ho hi
      generalize f 3 = v3 at *; generalize f 4 = v4 at *; generalize f 5 = v5 at *; generalize f 6 = v6 at *; generalize f 7 = v7 at *; generalize f 8 = v8 at *; generalize f 9 = v9 at *; generalize f 10 = v10 at *
      refine wpOp_step rfl (fun K hK => ?_)
      go_simp
      exact hK _ _ ⟨_, rfl, (fun p hp => by cases hp; rfl), Below.refl _ _⟩
    · obtain rfl := Option.some.inj ho
      have e0 : f 3 = (turn tw tx ty tz) := hdep ⟨0, .data⟩ (by simp) rfl
      clear hdep ho hi
      generalize f 3 = v3 at *; generalize f 4 = v4 at *; generalize f 5 = v5 at *; generalize f 6 = v6 at *; generalize f 7 = v7 at *; generalize f 8 = v8 at *; generalize f 9 = v9 at *; generalize f 10 = v10 at *
      subst e0
      refine wpOp_step rfl (fun K hK => ?_)
      go_simp
      refine (c_Turn_vector ht _).mono ?_
      rintro e w' ⟨⟨y0, y1, y2, rfl, hv⟩, hb⟩
      exact hK _ _ ⟨_, rfl, (fun p hp => by cases hp; exact ⟨_, _, _, rfl, hv⟩), hb⟩
    · obtain rfl := Option.some.inj ho
      obtain ⟨x1, y1, z1, e1, hv1⟩ : isVec _ (f 4) w1 := hdep ⟨1, .data⟩ (by simp) rfl
      clear hdep ho hi
      generalize f 3 = v3 at *; generalize f 4 = v4 at *; generalize f 5 = v5 at *; generalize f 6 = v6 at *; generalize f 7 = v7 at *; generalize f 8 = v8 at *; generalize f 9 = v9 at *; generalize f 10 = v10 at *
      subst e1
      refine wpOp_step rfl (fun K hK => ?_)
      go_simp
      refine (c_impl_LongOf hv1 _).mono ?_
      rintro e w' ⟨⟨y0, rfl, hv⟩, hb⟩
      exact hK _ _ ⟨_, rfl, (fun p hp => by cases hp; exact ⟨_, rfl, hv⟩), hb⟩
    · obtain rfl := Option.some.inj ho
      clear hdep ho hi
      generalize f 3 = v3 at *; generalize f 4 = v4 at *; generalize f 5 = v5 at *; generalize f 6 = v6 at *; generalize f 7 = v7 at *; generalize f 8 = v8 at *; generalize f 9 = v9 at *; generalize f 10 = v10 at *
      refine wpOp_step rfl (fun K hK => ?_)
      go_simp
      exact hK _ _ ⟨_, rfl, (fun p hp => by cases hp; rfl), Below.refl _ _⟩
    · obtain rfl := Option.some.inj ho
      have e3 : f 6 = (.pointer (some ⟨w.heap.size, 0, none⟩)) := hdep ⟨3, .data⟩ (by simp) rfl
      clear hdep ho hi
      generalize f 3 = v3 at *; generalize f 4 = v4 at *; generalize f 5 = v5 at *; generalize f 6 = v6 at *; generalize f 7 = v7 at *; generalize f 8 = v8 at *; generalize f 9 = v9 at *; generalize f 10 = v10 at *
      subst e3
      refine wpOp_step rfl (fun K hK => ?_)
      go_simp
      exact hK _ _ ⟨_, rfl, (fun p hp => by cases hp; rfl), Below.refl _ _⟩
    · obtain rfl := Option.some.inj ho
      have e4 : f 7 = (.float .f32 tw) := hdep ⟨4, .data⟩ (by simp) rfl
      clear hdep ho hi
      generalize f 3 = v3 at *; generalize f 4 = v4 at *; generalize f 5 = v5 at *; generalize f 6 = v6 at *; generalize f 7 = v7 at *; generalize f 8 = v8 at *; generalize f 9 = v9 at *; generalize f 10 = v10 at *
      subst e4
      refine wpOp_step rfl (fun K hK => ?_)
      go_simp
      refine (c_impl_size ht.w _).mono ?_
      rintro e w' ⟨⟨y0, rfl, hv⟩, hb⟩
      exact hK _ _ ⟨_, rfl, (fun p hp => by cases hp; exact ⟨_, rfl, hv⟩), hb⟩
    · obtain rfl := Option.some.inj ho
      obtain ⟨r2, e2, hv2⟩ : isFlt _ _ (f 5) w1 := hdep ⟨2, .data⟩ (by simp) rfl
      obtain ⟨r5, e5, hv5⟩ : isFlt _ _ (f 8) w1 := hdep ⟨5, .data⟩ (by simp) rfl
      clear hdep ho hi
      generalize f 3 = v3 at *; generalize f 4 = v4 at *; generalize f 5 = v5 at *; generalize f 6 = v6 at *; generalize f 7 = v7 at *; generalize f 8 = v8 at *; generalize f 9 = v9 at *; generalize f 10 = v10 at *
      subst e2 e5
      refine wpOp_step rfl (fun K hK => ?_)
      go_simp
      refine (c_impl_AngleTurns hv2 hv5 _).mono ?_
      rintro e w' ⟨⟨y0, rfl, hv⟩, hb⟩
      exact hK _ _ ⟨_, rfl, (fun p hp => by cases hp; exact ⟨_, rfl, hv⟩), hb⟩
    · obtain rfl := Option.some.inj ho
      obtain ⟨r6, e6, hv6⟩ : isFlt _ _ (f 9) w1 := hdep ⟨6, .data⟩ (by simp) rfl
      clear hdep ho hi
      generalize f 3 = v3 at *; generalize f 4 = v4 at *; generalize f 5 = v5 at *; generalize f 6 = v6 at *; generalize f 7 = v7 at *; generalize f 8 = v8 at *; generalize f 9 = v9 at *; generalize f 10 = v10 at *
      subst e6
      refine wpOp_step rfl (fun K hK => ?_)
      go_simp
      (with_reducible apply upon_float_bin); exact rfl; exact (fvc rfl : Fv .f32 1073741824 (some 1073741824)); exact hv6; intro r n hr
      exact hK _ _ ⟨_, rfl, (fun p hp => by cases hp; exact ⟨_, rfl, hr⟩), below_drewN (Below.refl _ _) _⟩
  · intro f w1 hI hF
    simp only [List.map_cons, List.map_nil, mix, List.contains_cons, List.contains_nil, Nat.reduceBEq, Bool.or_true, Bool.or_false, Bool.false_eq_true, if_true, if_false, Nat.reduceAdd, Nat.zero_add]
    obtain ⟨hp0, hb1⟩ := hI
    have hsz := hb1.size
    replace hbel := hbel.trans (hb1.mono hbel.size)
    obtain ⟨r1_10, e7, hv1_10⟩ : isFlt _ _ (f 10) w1 := hF 7 (by simp)
    clear hF
    generalize f 3 = v3 at *; generalize f 4 = v4 at *; generalize f 5 = v5 at *; generalize f 6 = v6 at *; generalize f 7 = v7 at *; generalize f 8 = v8 at *; generalize f 9 = v9 at *; generalize f 10 = v10 at *
    subst e7
    have Lw1hp0 := hp0.lt
    obtain ⟨⟨c0_0, c0_1, c0_2, c0_3⟩, fz0⟩ := id hp0
    change wpAny _ _ _ _ (0 + 1) _ _ _
    refine wpAny_all (rs := [8]) (by kernel_rfl) (by simp) ?_
    intro i hi
    obtain rfl : i = 8 := by simpa using hi
    clear hi
    refine wpOp_step rfl (fun K hK => ?_)
    go_simp
    refine hK _ _ (wpAny_done (by kernel_rfl) ?_ _)
    clear hK K
    go_wp2_with fail
    go_ret
    exact ⟨⟨_, rfl, hv1_10⟩, by (repeat (first | exact Below.refl _ _ | (refine below_drewN ?_ _) | (refine Below.drew ?_) | (refine Below.setCell ?_ (by first | omega | (simp; try omega)) _) | (refine Below.alloc ?_ (by first | omega | (simp; try omega)) _) | (refine Below.trans ?_ (Below.mono (by assumption) (by first | omega | (simp; try omega))))))⟩

set_option maxHeartbeats 40000000 in
set_option maxRecDepth 20000 in
theorem c_spec_l02Angle {tw tx ty tz : Nat} {Ct : V4} (ht : Fv4 tw tx ty tz Ct) (w : World) : Calls Try.prog 44 #[turn tw tx ty tz] w (RetF .f32 (angleOfC Ct) w) := by
  go_enter Try.func44, Try.ntmps44
  go_upto_region 1 with fail
  refine wp_name (fun wr => HasF4 wr w.heap.size tw tx ty tz ∧ Below w.heap.size w wr) ⟨⟨⟨by go_simp, by go_simp, by go_simp, by go_simp⟩, fun o => by go_simp⟩, by (repeat (first | exact Below.refl _ _ | (refine below_drewN ?_ _) | (refine Below.drew ?_) | (refine Below.setCell ?_ (by first | omega | (simp; try omega)) _) | (refine Below.alloc ?_ (by first | omega | (simp; try omega)) _) | (refine Below.trans ?_ (Below.mono (by assumption) (by first | omega | (simp; try omega))))))⟩ ?_
  rintro W1 ⟨hp0, hbel⟩
  have LW1hp0 := hp0.lt; have SW1 := hbel.size
  refine wp_region_drawn [(3, isV (turn tw tx ty tz)), (4, isVec (axisC (Ct))), (5, isFlt .f32 (longC (axisC (Ct)))), (6, isV (.pointer (some ⟨w.heap.size, 0, none⟩))), (7, isV (.float .f32 tw)), (8, isFlt .f32 (fabs .f32 ((Ct).w))), (9, isFlt .f32 (angleC (longC (axisC (Ct))) (fabs .f32 ((Ct).w)))), (10, isFlt .f32 (M (some 1073741824) (angleC (longC (axisC (Ct))) (fabs .f32 ((Ct).w)))))]
    (fun wr => HasF4 wr w.heap.size tw tx ty tz ∧ Below W1.heap.size W1 wr)
    (by kernel_rfl) (by kernel_rfl) (by kernel_rfl) (by kernel_rfl) (Nat.le_of_ble_eq_true (by kernel_rfl)) (by kernel_rfl) ?_ (fun _ _ hb h => ⟨h.1.below hb, h.2.trans (hb.mono h.2.size)⟩) ⟨hp0, (Below.refl _ _).drew⟩ ?_ ?_
  · intro p hp
    simp only [List.mem_cons, List.not_mem_nil, or_false] at hp
    rcases hp with rfl | rfl | rfl | rfl | rfl | rfl | rfl | rfl <;> first | exact mono_isV _ | exact mono_isVec _ | exact mono_isTurn _ | exact mono_isFlt _ _ | exact mono_isOwn3 _ | exact mono_isOwn4 _
  · intro i o hi ho f w1 hI hdep
    simp only [List.map_cons, List.map_nil, mix, List.contains_cons, List.contains_nil, Nat.reduceBEq, Bool.or_true, Bool.or_false, Bool.false_eq_true, if_true, if_false, Nat.reduceAdd, Nat.zero_add]
    have hcase : i = 0 ∨ i = 1 ∨ i = 2 ∨ i = 3 ∨ i = 4 ∨ i = 5 ∨ i = 6 ∨ i = 7 := by simp at hi; omega
    obtain ⟨⟨⟨c0_0, c0_1, c0_2, c0_3⟩, fz0⟩, hb1⟩ := hI
    have hsz := hb1.size
    rcases hcase with rfl | rfl | rfl | rfl | rfl | rfl | rfl | rfl
    · obtain rfl := Option.some.inj ho
      clear hdep ho hi
      generalize f 3 = v3 at *; generalize f 4 = v4 at *; generalize f 5 = v5 at *; generalize f 6 = v6 at *; generalize f 7 = v7 at *; generalize f 8 = v8 at *; generalize f 9 = v9 at *; generalize f 10 = v10 at *
      refine wpOp_step rfl (fun K hK => ?_)
      go_simp
      exact hK _ _ ⟨_, rfl, (fun p hp => by cases hp; rfl), Below.refl _ _⟩
    · obtain rfl := Option.some.inj ho
      have e0 : f 3 = (turn tw tx ty tz) := hdep ⟨0, .data⟩ (by simp) rfl
      clear hdep ho hi
      generalize f 3 = v3 at *; generalize f 4 = v4 at *; generalize f 5 = v5 at *; generalize f 6 = v6 at *; generalize f 7 = v7 at *; generalize f 8 = v8 at *; generalize f 9 = v9 at *; generalize f 10 = v10 at *
      subst e0
      refine wpOp_step rfl (fun K hK => ?_)
      go_simp
      refine (c_spec_l02Axis ht _).mono ?_
      rintro e w' ⟨⟨y0, y1, y2, rfl, hv⟩, hb⟩
      exact hK _ _ ⟨_, rfl, (fun p hp => by cases hp; exact ⟨_, _, _, rfl, hv⟩), hb⟩
    · obtain rfl := Option.some.inj ho
      obtain ⟨x1, y1, z1, e1, hv1⟩ : isVec _ (f 4) w1 := hdep ⟨1, .data⟩ (by simp) rfl
      clear hdep ho hi
      generalize f 3 = v3 at *; generalize f 4 = v4 at *; generalize f 5 = v5 at *; generalize f 6 = v6 at *; generalize f 7 = v7 at *; generalize f 8 = v8 at *; generalize f 9 = v9 at *; generalize f 10 = v10 at *
      subst e1
      refine wpOp_step rfl (fun K hK => ?_)
      go_simp
      refine (c_spec_l01Long hv1 _).mono ?_
      rintro e w' ⟨⟨y0, rfl, hv⟩, hb⟩
      exact hK _ _ ⟨_, rfl, (fun p hp => by cases hp; exact ⟨_, rfl, hv⟩), hb⟩
    · obtain rfl := Option.some.inj ho
      clear hdep ho hi
      generalize f 3 = v3 at *; generalize f 4 = v4 at *; generalize f 5 = v5 at *; generalize f 6 = v6 at *; generalize f 7 = v7 at *; generalize f 8 = v8 at *; generalize f 9 = v9 at *; generalize f 10 = v10 at *
      refine wpOp_step rfl (fun K hK => ?_)
      go_simp
      exact hK _ _ ⟨_, rfl, (fun p hp => by cases hp; rfl), Below.refl _ _⟩
    · obtain rfl := Option.some.inj ho
      have e3 : f 6 = (.pointer (some ⟨w.heap.size, 0, none⟩)) := hdep ⟨3, .data⟩ (by simp) rfl
      clear hdep ho hi
      generalize f 3 = v3 at *; generalize f 4 = v4 at *; generalize f 5 = v5 at *; generalize f 6 = v6 at *; generalize f 7 = v7 at *; generalize f 8 = v8 at *; generalize f 9 = v9 at *; generalize f 10 = v10 at *
      subst e3
      refine wpOp_step rfl (fun K hK => ?_)
      go_simp
      exact hK _ _ ⟨_, rfl, (fun p hp => by cases hp; rfl), Below.refl _ _⟩
    · obtain rfl := Option.some.inj ho
      have e4 : f 7 = (.float .f32 tw) := hdep ⟨4, .data⟩ (by simp) rfl
      clear hdep ho hi
      generalize f 3 = v3 at *; generalize f 4 = v4 at *; generalize f 5 = v5 at *; generalize f 6 = v6 at *; generalize f 7 = v7 at *; generalize f 8 = v8 at *; generalize f 9 = v9 at *; generalize f 10 = v10 at *
      subst e4
      refine wpOp_step rfl (fun K hK => ?_)
      go_simp
      refine (c_spec_l02Size ht.w _).mono ?_
      rintro e w' ⟨⟨y0, rfl, hv⟩, hb⟩
      exact hK _ _ ⟨_, rfl, (fun p hp => by cases hp; exact ⟨_, rfl, hv⟩), hb⟩
    · obtain rfl := Option.some.inj ho
      obtain ⟨r2, e2, hv2⟩ : isFlt _ _ (f 5) w1 := hdep ⟨2, .data⟩ (by simp) rfl
      obtain ⟨r5, e5, hv5⟩ : isFlt _ _ (f 8) w1 := hdep ⟨5, .data⟩ (by simp) rfl
      clear hdep ho hi
      generalize f 3 = v3 at *; generalize f 4 = v4 at *; generalize f 5 = v5 at *; generalize f 6 = v6 at *; generalize f 7 = v7 at *; generalize f 8 = v8 at *; generalize f 9 = v9 at *; generalize f 10 = v10 at *
      subst e2 e5
      refine wpOp_step rfl (fun K hK => ?_)
      go_simp
      refine (c_spec_l01Angle hv2 hv5 _).mono ?_
      rintro e w' ⟨⟨y0, rfl, hv⟩, hb⟩
      exact hK _ _ ⟨_, rfl, (fun p hp => by cases hp; exact ⟨_, rfl, hv⟩), hb⟩
    · obtain rfl := Option.some.inj ho
      obtain ⟨r6, e6, hv6⟩ : isFlt _ _ (f 9) w1 := hdep ⟨6, .data⟩ (by simp) rfl
      clear hdep ho hi
      generalize f 3 = v3 at *; generalize f 4 = v4 at *; generalize f 5 = v5 at *; generalize f 6 = v6 at *; generalize f 7 = v7 at *; generalize f 8 = v8 at *; generalize f 9 = v9 at *; generalize f 10 = v10 at *
      subst e6
      refine wpOp_step rfl (fun K hK => ?_)
      go_simp
      (with_reducible apply upon_float_bin); exact rfl; exact (fvc rfl : Fv .f32 1073741824 (some 1073741824)); exact hv6; intro r n hr
      exact hK _ _ ⟨_, rfl, (fun p hp => by cases hp; exact ⟨_, rfl, hr⟩), below_drewN (Below.refl _ _) _⟩
  · intro f w1 hI hF
    simp only [List.map_cons, List.map_nil, mix, List.contains_cons, List.contains_nil, Nat.reduceBEq, Bool.or_true, Bool.or_false, Bool.false_eq_true, if_true, if_false, Nat.reduceAdd, Nat.zero_add]
    obtain ⟨hp0, hb1⟩ := hI
    have hsz := hb1.size
    replace hbel := hbel.trans (hb1.mono hbel.size)
    obtain ⟨r1_10, e7, hv1_10⟩ : isFlt _ _ (f 10) w1 := hF 7 (by simp)
    clear hF
    generalize f 3 = v3 at *; generalize f 4 = v4 at *; generalize f 5 = v5 at *; generalize f 6 = v6 at *; generalize f 7 = v7 at *; generalize f 8 = v8 at *; generalize f 9 = v9 at *; generalize f 10 = v10 at *
    subst e7
    have Lw1hp0 := hp0.lt
    obtain ⟨⟨c0_0, c0_1, c0_2, c0_3⟩, fz0⟩ := id hp0
    change wpAny _ _ _ _ (0 + 1) _ _ _
    refine wpAny_all (rs := [8]) (by kernel_rfl) (by simp) ?_
    intro i hi
    obtain rfl : i = 8 := by simpa using hi
    clear hi
    refine wpOp_step rfl (fun K hK => ?_)
    go_simp
    refine hK _ _ (wpAny_done (by kernel_rfl) ?_ _)
    clear hK K
    go_wp2_with fail
    go_ret
    exact ⟨⟨_, rfl, hv1_10⟩, by (repeat (first | exact Below.refl _ _ | (refine below_drewN ?_ _) | (refine Below.drew ?_) | (refine Below.setCell ?_ (by first | omega | (simp; try omega)) _) | (refine Below.alloc ?_ (by first | omega | (simp; try omega)) _) | (refine Below.trans ?_ (Below.mono (by assumption) (by first | omega | (simp; try omega))))))⟩

set_option maxHeartbeats 40000000 in
set_option maxRecDepth 20000 in
theorem c_spec_AngleOf {tw tx ty tz : Nat} {Ct : V4} (ht : Fv4 tw tx ty tz Ct) (w : World) : Calls Try.prog 24 #[turn tw tx ty tz] w (RetF .f32 (angleOfC Ct) w) := by
  go_enter Try.func24, Try.ntmps24
  go_upto_region 1 with fail
  refine wp_name (fun wr => HasF4 wr w.heap.size tw tx ty tz ∧ Below w.heap.size w wr) ⟨⟨⟨by go_simp, by go_simp, by go_simp, by go_simp⟩, fun o => by go_simp⟩, by (repeat (first | exact Below.refl _ _ | (refine below_drewN ?_ _) | (refine Below.drew ?_) | (refine Below.setCell ?_ (by first | omega | (simp; try omega)) _) | (refine Below.alloc ?_ (by first | omega | (simp; try omega)) _) | (refine Below.trans ?_ (Below.mono (by assumption) (by first | omega | (simp; try omega))))))⟩ ?_
  rintro W1 ⟨hp0, hbel⟩
  have LW1hp0 := hp0.lt; have SW1 := hbel.size
  obtain ⟨⟨c0_0, c0_1, c0_2, c0_3⟩, fz0⟩ := id hp0
  go_wp2_with fail
  refine (c_spec_l02Angle ht _).mono ?_
  rintro e W1c ⟨⟨r1, rfl, hv1⟩, hb⟩
  clear c0_0 c0_1 c0_2 c0_3 fz0
  replace hp0 := hp0.below hb
  replace hbel := hbel.trans (hb.mono hbel.size)
  clear hb
  have LW1chp0 := hp0.lt; have SW1c := hbel.size
  obtain ⟨⟨c0_0, c0_1, c0_2, c0_3⟩, fz0⟩ := id hp0
  go_wp2_with fail
  go_ret
  exact ⟨⟨_, rfl, hv1⟩, by (repeat (first | exact Below.refl _ _ | (refine below_drewN ?_ _) | (refine Below.drew ?_) | (refine Below.setCell ?_ (by first | omega | (simp; try omega)) _) | (refine Below.alloc ?_ (by first | omega | (simp; try omega)) _) | (refine Below.trans ?_ (Below.mono (by assumption) (by first | omega | (simp; try omega))))))⟩

set_option maxHeartbeats 40000000 in
set_option maxRecDepth 20000 in
theorem c_impl_ApartTurns {tw tx ty tz rw rx ry rz : Nat} {Ct : V4} {Cr : V4} (ht : Fv4 tw tx ty tz Ct) (hr : Fv4 rw rx ry rz Cr) (w : World) : Calls Try.prog 27 #[turn tw tx ty tz, turn rw rx ry rz] w (RetF .f32 (apartC Ct Cr) w) := by
  go_enter Try.func27, Try.ntmps27
  go_upto_region 1 with fail
  refine wp_name (fun wr => HasF4 wr w.heap.size tw tx ty tz ∧ HasF4 wr (w.heap.size + 1) rw rx ry rz ∧ Below w.heap.size w wr) ⟨⟨⟨by go_simp, by go_simp, by go_simp, by go_simp⟩, fun o => by go_simp⟩, ⟨⟨by go_simp, by go_simp, by go_simp, by go_simp⟩, fun o => by go_simp⟩, by (repeat (first | exact Below.refl _ _ | (refine below_drewN ?_ _) | (refine Below.drew ?_) | (refine Below.setCell ?_ (by first | omega | (simp; try omega)) _) | (refine Below.alloc ?_ (by first | omega | (simp; try omega)) _) | (refine Below.trans ?_ (Below.mono (by assumption) (by first | omega | (simp; try omega))))))⟩ ?_
  rintro W1 ⟨hp0, hp1, hbel⟩
  have LW1hp0 := hp0.lt; have LW1hp1 := hp1.lt; have SW1 := hbel.size
  refine wp_region_drawn [(5, isV (turn tw tx ty tz)), (6, isTurn (invC (Ct))), (7, isV (turn rw rx ry rz)), (8, isTurn (mulC (invC (Ct)) (Cr))), (9, isFlt .f32 (angleOfC (mulC (invC (Ct)) (Cr))))]
    (fun wr => HasF4 wr w.heap.size tw tx ty tz ∧ HasF4 wr (w.heap.size + 1) rw rx ry rz ∧ Below W1.heap.size W1 wr)
    (by kernel_rfl) (by kernel_rfl) (by kernel_rfl) (by kernel_rfl) (Nat.le_of_ble_eq_true (by kernel_rfl)) (by kernel_rfl) ?_ (fun _ _ hb h => ⟨h.1.below hb, h.2.1.below hb, h.2.2.trans (hb.mono h.2.2.size)⟩) ⟨hp0, hp1, (Below.refl _ _).drew⟩ ?_ ?_
  · intro p hp
    simp only [List.mem_cons, List.not_mem_nil, or_false] at hp
    rcases hp with rfl | rfl | rfl | rfl | rfl <;> first | exact mono_isV _ | exact mono_isVec _ | exact mono_isTurn _ | exact mono_isFlt _ _ | exact mono_isOwn3 _ | exact mono_isOwn4 _
  · intro i o hi ho f w1 hI hdep
    simp only [List.map_cons, List.map_nil, mix, List.contains_cons, List.contains_nil, Nat.reduceBEq, Bool.or_true, Bool.or_false, Bool.false_eq_true, if_true, if_false, Nat.reduceAdd, Nat.zero_add]
    have hcase : i = 0 ∨ i = 1 ∨ i = 2 ∨ i = 3 ∨ i = 4 := by simp at hi; omega
    obtain ⟨⟨⟨c0_0, c0_1, c0_2, c0_3⟩, fz0⟩, ⟨⟨c1_0, c1_1, c1_2, c1_3⟩, fz1⟩, hb1⟩ := hI
    have hsz := hb1.size
    rcases hcase with rfl | rfl | rfl | rfl | rfl
    · obtain rfl := Option.some.inj ho
      clear hdep ho hi
      generalize f 5 = v5 at *; generalize f 6 = v6 at *; generalize f 7 = v7 at *; generalize f 8 = v8 at *; generalize f 9 = v9 at *
      refine wpOp_step rfl (fun K hK => ?_)
      go_simp
      exact hK _ _ ⟨_, rfl, (fun p hp => by cases hp; rfl), Below.refl _ _⟩
    · obtain rfl := Option.some.inj ho
      have e0 : f 5 = (turn tw tx ty tz) := hdep ⟨0, .data⟩ (by simp) rfl
      clear hdep ho hi
      generalize f 5 = v5 at *; generalize f 6 = v6 at *; generalize f 7 = v7 at *; generalize f 8 = v8 at *; generalize f 9 = v9 at *
      subst e0
      refine wpOp_step rfl (fun K hK => ?_)
      go_simp
      refine (c_impl_InverseOf ht _).mono ?_
      rintro e w' ⟨⟨y0, y1, y2, y3, rfl, hv⟩, hb⟩
      exact hK _ _ ⟨_, rfl, (fun p hp => by cases hp; exact ⟨_, _, _, _, rfl, hv⟩), hb⟩
    · obtain rfl := Option.some.inj ho
      clear hdep ho hi
      generalize f 5 = v5 at *; generalize f 6 = v6 at *; generalize f 7 = v7 at *; generalize f 8 = v8 at *; generalize f 9 = v9 at *
      refine wpOp_step rfl (fun K hK => ?_)
      go_simp
      exact hK _ _ ⟨_, rfl, (fun p hp => by cases hp; rfl), Below.refl _ _⟩
    · obtain rfl := Option.some.inj ho
      obtain ⟨w1, x1, y1, z1, e1, hv1⟩ : isTurn _ (f 6) w1 := hdep ⟨1, .data⟩ (by simp) rfl
      have e2 : f 7 = (turn rw rx ry rz) := hdep ⟨2, .data⟩ (by simp) rfl
      clear hdep ho hi
      generalize f 5 = v5 at *; generalize f 6 = v6 at *; generalize f 7 = v7 at *; generalize f 8 = v8 at *; generalize f 9 = v9 at *
      subst e1 e2
      refine wpOp_step rfl (fun K hK => ?_)
      go_simp
      refine (c_impl_MulTurns hv1 hr _).mono ?_
      rintro e w' ⟨⟨y0, y1, y2, y3, rfl, hv⟩, hb⟩
      exact hK _ _ ⟨_, rfl, (fun p hp => by cases hp; exact ⟨_, _, _, _, rfl, hv⟩), hb⟩
    · obtain rfl := Option.some.inj ho
      obtain ⟨w3, x3, y3, z3, e3, hv3⟩ : isTurn _ (f 8) w1 := hdep ⟨3, .data⟩ (by simp) rfl
      clear hdep ho hi
      generalize f 5 = v5 at *; generalize f 6 = v6 at *; generalize f 7 = v7 at *; generalize f 8 = v8 at *; generalize f 9 = v9 at *
      subst e3
      refine wpOp_step rfl (fun K hK => ?_)
      go_simp
      refine (c_impl_AngleOf hv3 _).mono ?_
      rintro e w' ⟨⟨y0, rfl, hv⟩, hb⟩
      exact hK _ _ ⟨_, rfl, (fun p hp => by cases hp; exact ⟨_, rfl, hv⟩), hb⟩
  · intro f w1 hI hF
    simp only [List.map_cons, List.map_nil, mix, List.contains_cons, List.contains_nil, Nat.reduceBEq, Bool.or_true, Bool.or_false, Bool.false_eq_true, if_true, if_false, Nat.reduceAdd, Nat.zero_add]
    obtain ⟨hp0, hp1, hb1⟩ := hI
    have hsz := hb1.size
    replace hbel := hbel.trans (hb1.mono hbel.size)
    obtain ⟨r1_9, e4, hv1_9⟩ : isFlt _ _ (f 9) w1 := hF 4 (by simp)
    clear hF
    generalize f 5 = v5 at *; generalize f 6 = v6 at *; generalize f 7 = v7 at *; generalize f 8 = v8 at *; generalize f 9 = v9 at *
    subst e4
    have Lw1hp0 := hp0.lt; have Lw1hp1 := hp1.lt
    obtain ⟨⟨c0_0, c0_1, c0_2, c0_3⟩, fz0⟩ := id hp0
    obtain ⟨⟨c1_0, c1_1, c1_2, c1_3⟩, fz1⟩ := id hp1
    change wpAny _ _ _ _ (0 + 1) _ _ _
    refine wpAny_all (rs := [5]) (by kernel_rfl) (by simp) ?_
    intro i hi
    obtain rfl : i = 5 := by simpa using hi
    clear hi
    refine wpOp_step rfl (fun K hK => ?_)
    go_simp
    refine hK _ _ (wpAny_done (by kernel_rfl) ?_ _)
    clear hK K
    go_wp2_with fail
    go_ret
    exact ⟨⟨_, rfl, hv1_9⟩, by (repeat (first | exact Below.refl _ _ | (refine below_drewN ?_ _) | (refine Below.drew ?_) | (refine Below.setCell ?_ (by first | omega | (simp; try omega)) _) | (refine Below.alloc ?_ (by first | omega | (simp; try omega)) _) | (refine Below.trans ?_ (Below.mono (by assumption) (by first | omega | (simp; try omega))))))⟩

set_option maxHeartbeats 40000000 in
set_option maxRecDepth 20000 in
theorem c_spec_l02Apart {tw tx ty tz rw rx ry rz : Nat} {Ct : V4} {Cr : V4} (ht : Fv4 tw tx ty tz Ct) (hr : Fv4 rw rx ry rz Cr) (w : World) : Calls Try.prog 47 #[turn tw tx ty tz, turn rw rx ry rz] w (RetF .f32 (apartC Ct Cr) w) := by
  go_enter Try.func47, Try.ntmps47
  go_upto_region 1 with fail
  refine wp_name (fun wr => HasF4 wr w.heap.size tw tx ty tz ∧ HasF4 wr (w.heap.size + 1) rw rx ry rz ∧ Below w.heap.size w wr) ⟨⟨⟨by go_simp, by go_simp, by go_simp, by go_simp⟩, fun o => by go_simp⟩, ⟨⟨by go_simp, by go_simp, by go_simp, by go_simp⟩, fun o => by go_simp⟩, by (repeat (first | exact Below.refl _ _ | (refine below_drewN ?_ _) | (refine Below.drew ?_) | (refine Below.setCell ?_ (by first | omega | (simp; try omega)) _) | (refine Below.alloc ?_ (by first | omega | (simp; try omega)) _) | (refine Below.trans ?_ (Below.mono (by assumption) (by first | omega | (simp; try omega))))))⟩ ?_
  rintro W1 ⟨hp0, hp1, hbel⟩
  have LW1hp0 := hp0.lt; have LW1hp1 := hp1.lt; have SW1 := hbel.size
  refine wp_region_drawn [(5, isV (turn tw tx ty tz)), (6, isTurn (invC (Ct))), (7, isV (turn rw rx ry rz)), (8, isTurn (mulC (invC (Ct)) (Cr))), (9, isFlt .f32 (angleOfC (mulC (invC (Ct)) (Cr))))]
    (fun wr => HasF4 wr w.heap.size tw tx ty tz ∧ HasF4 wr (w.heap.size + 1) rw rx ry rz ∧ Below W1.heap.size W1 wr)
    (by kernel_rfl) (by kernel_rfl) (by kernel_rfl) (by kernel_rfl) (Nat.le_of_ble_eq_true (by kernel_rfl)) (by kernel_rfl) ?_ (fun _ _ hb h => ⟨h.1.below hb, h.2.1.below hb, h.2.2.trans (hb.mono h.2.2.size)⟩) ⟨hp0, hp1, (Below.refl _ _).drew⟩ ?_ ?_
  · intro p hp
    simp only [List.mem_cons, List.not_mem_nil, or_false] at hp
    rcases hp with rfl | rfl | rfl | rfl | rfl <;> first | exact mono_isV _ | exact mono_isVec _ | exact mono_isTurn _ | exact mono_isFlt _ _ | exact mono_isOwn3 _ | exact mono_isOwn4 _
  · intro i o hi ho f w1 hI hdep
    simp only [List.map_cons, List.map_nil, mix, List.contains_cons, List.contains_nil, Nat.reduceBEq, Bool.or_true, Bool.or_false, Bool.false_eq_true, if_true, if_false, Nat.reduceAdd, Nat.zero_add]
    have hcase : i = 0 ∨ i = 1 ∨ i = 2 ∨ i = 3 ∨ i = 4 := by simp at hi; omega
    obtain ⟨⟨⟨c0_0, c0_1, c0_2, c0_3⟩, fz0⟩, ⟨⟨c1_0, c1_1, c1_2, c1_3⟩, fz1⟩, hb1⟩ := hI
    have hsz := hb1.size
    rcases hcase with rfl | rfl | rfl | rfl | rfl
    · obtain rfl := Option.some.inj ho
      clear hdep ho hi
      generalize f 5 = v5 at *; generalize f 6 = v6 at *; generalize f 7 = v7 at *; generalize f 8 = v8 at *; generalize f 9 = v9 at *
      refine wpOp_step rfl (fun K hK => ?_)
      go_simp
      exact hK _ _ ⟨_, rfl, (fun p hp => by cases hp; rfl), Below.refl _ _⟩
    · obtain rfl := Option.some.inj ho
      have e0 : f 5 = (turn tw tx ty tz) := hdep ⟨0, .data⟩ (by simp) rfl
      clear hdep ho hi
      generalize f 5 = v5 at *; generalize f 6 = v6 at *; generalize f 7 = v7 at *; generalize f 8 = v8 at *; generalize f 9 = v9 at *
      subst e0
      refine wpOp_step rfl (fun K hK => ?_)
      go_simp
      refine (c_spec_l02Inverse ht _).mono ?_
      rintro e w' ⟨⟨y0, y1, y2, y3, rfl, hv⟩, hb⟩
      exact hK _ _ ⟨_, rfl, (fun p hp => by cases hp; exact ⟨_, _, _, _, rfl, hv⟩), hb⟩
    · obtain rfl := Option.some.inj ho
      clear hdep ho hi
      generalize f 5 = v5 at *; generalize f 6 = v6 at *; generalize f 7 = v7 at *; generalize f 8 = v8 at *; generalize f 9 = v9 at *
      refine wpOp_step rfl (fun K hK => ?_)
      go_simp
      exact hK _ _ ⟨_, rfl, (fun p hp => by cases hp; rfl), Below.refl _ _⟩
    · obtain rfl := Option.some.inj ho
      obtain ⟨w1, x1, y1, z1, e1, hv1⟩ : isTurn _ (f 6) w1 := hdep ⟨1, .data⟩ (by simp) rfl
      have e2 : f 7 = (turn rw rx ry rz) := hdep ⟨2, .data⟩ (by simp) rfl
      clear hdep ho hi
      generalize f 5 = v5 at *; generalize f 6 = v6 at *; generalize f 7 = v7 at *; generalize f 8 = v8 at *; generalize f 9 = v9 at *
      subst e1 e2
      refine wpOp_step rfl (fun K hK => ?_)
      go_simp
      refine (c_spec_l02Mul hv1 hr _).mono ?_
      rintro e w' ⟨⟨y0, y1, y2, y3, rfl, hv⟩, hb⟩
      exact hK _ _ ⟨_, rfl, (fun p hp => by cases hp; exact ⟨_, _, _, _, rfl, hv⟩), hb⟩
    · obtain rfl := Option.some.inj ho
      obtain ⟨w3, x3, y3, z3, e3, hv3⟩ : isTurn _ (f 8) w1 := hdep ⟨3, .data⟩ (by simp) rfl
      clear hdep ho hi
      generalize f 5 = v5 at *; generalize f 6 = v6 at *; generalize f 7 = v7 at *; generalize f 8 = v8 at *; generalize f 9 = v9 at *
      subst e3
      refine wpOp_step rfl (fun K hK => ?_)
      go_simp
      refine (c_spec_l02Angle hv3 _).mono ?_
      rintro e w' ⟨⟨y0, rfl, hv⟩, hb⟩
      exact hK _ _ ⟨_, rfl, (fun p hp => by cases hp; exact ⟨_, rfl, hv⟩), hb⟩
  · intro f w1 hI hF
    simp only [List.map_cons, List.map_nil, mix, List.contains_cons, List.contains_nil, Nat.reduceBEq, Bool.or_true, Bool.or_false, Bool.false_eq_true, if_true, if_false, Nat.reduceAdd, Nat.zero_add]
    obtain ⟨hp0, hp1, hb1⟩ := hI
    have hsz := hb1.size
    replace hbel := hbel.trans (hb1.mono hbel.size)
    obtain ⟨r1_9, e4, hv1_9⟩ : isFlt _ _ (f 9) w1 := hF 4 (by simp)
    clear hF
    generalize f 5 = v5 at *; generalize f 6 = v6 at *; generalize f 7 = v7 at *; generalize f 8 = v8 at *; generalize f 9 = v9 at *
    subst e4
    have Lw1hp0 := hp0.lt; have Lw1hp1 := hp1.lt
    obtain ⟨⟨c0_0, c0_1, c0_2, c0_3⟩, fz0⟩ := id hp0
    obtain ⟨⟨c1_0, c1_1, c1_2, c1_3⟩, fz1⟩ := id hp1
    change wpAny _ _ _ _ (0 + 1) _ _ _
    refine wpAny_all (rs := [5]) (by kernel_rfl) (by simp) ?_
    intro i hi
    obtain rfl : i = 5 := by simpa using hi
    clear hi
    refine wpOp_step rfl (fun K hK => ?_)
    go_simp
    refine hK _ _ (wpAny_done (by kernel_rfl) ?_ _)
    clear hK K
    go_wp2_with fail
    go_ret
    exact ⟨⟨_, rfl, hv1_9⟩, by (repeat (first | exact Below.refl _ _ | (refine below_drewN ?_ _) | (refine Below.drew ?_) | (refine Below.setCell ?_ (by first | omega | (simp; try omega)) _) | (refine Below.alloc ?_ (by first | omega | (simp; try omega)) _) | (refine Below.trans ?_ (Below.mono (by assumption) (by first | omega | (simp; try omega))))))⟩

set_option maxHeartbeats 40000000 in
set_option maxRecDepth 20000 in
theorem c_spec_ApartTurns {tw tx ty tz rw rx ry rz : Nat} {Ct : V4} {Cr : V4} (ht : Fv4 tw tx ty tz Ct) (hr : Fv4 rw rx ry rz Cr) (w : World) : Calls Try.prog 26 #[turn tw tx ty tz, turn rw rx ry rz] w (RetF .f32 (apartC Ct Cr) w) := by
  go_enter Try.func26, Try.ntmps26
  go_upto_region 1 with fail
  refine wp_name (fun wr => HasF4 wr w.heap.size tw tx ty tz ∧ HasF4 wr (w.heap.size + 1) rw rx ry rz ∧ Below w.heap.size w wr) ⟨⟨⟨by go_simp, by go_simp, by go_simp, by go_simp⟩, fun o => by go_simp⟩, ⟨⟨by go_simp, by go_simp, by go_simp, by go_simp⟩, fun o => by go_simp⟩, by (repeat (first | exact Below.refl _ _ | (refine below_drewN ?_ _) | (refine Below.drew ?_) | (refine Below.setCell ?_ (by first | omega | (simp; try omega)) _) | (refine Below.alloc ?_ (by first | omega | (simp; try omega)) _) | (refine Below.trans ?_ (Below.mono (by assumption) (by first | omega | (simp; try omega))))))⟩ ?_
  rintro W1 ⟨hp0, hp1, hbel⟩
  have LW1hp0 := hp0.lt; have LW1hp1 := hp1.lt; have SW1 := hbel.size
  obtain ⟨⟨c0_0, c0_1, c0_2, c0_3⟩, fz0⟩ := id hp0
  obtain ⟨⟨c1_0, c1_1, c1_2, c1_3⟩, fz1⟩ := id hp1
  go_wp2_with fail
  refine (c_spec_l02Apart ht hr _).mono ?_
  rintro e W1c ⟨⟨r1, rfl, hv1⟩, hb⟩
  clear c0_0 c0_1 c0_2 c0_3 c1_0 c1_1 c1_2 c1_3 fz0 fz1
  replace hp0 := hp0.below hb
  replace hp1 := hp1.below hb
  replace hbel := hbel.trans (hb.mono hbel.size)
  clear hb
  have LW1chp0 := hp0.lt; have LW1chp1 := hp1.lt; have SW1c := hbel.size
  obtain ⟨⟨c0_0, c0_1, c0_2, c0_3⟩, fz0⟩ := id hp0
  obtain ⟨⟨c1_0, c1_1, c1_2, c1_3⟩, fz1⟩ := id hp1
  go_wp2_with fail
  go_ret
  exact ⟨⟨_, rfl, hv1⟩, by (repeat (first | exact Below.refl _ _ | (refine below_drewN ?_ _) | (refine Below.drew ?_) | (refine Below.setCell ?_ (by first | omega | (simp; try omega)) _) | (refine Below.alloc ?_ (by first | omega | (simp; try omega)) _) | (refine Below.trans ?_ (Below.mono (by assumption) (by first | omega | (simp; try omega))))))⟩

end Go.Proofs.Ytpfijbgkhekjfaa
