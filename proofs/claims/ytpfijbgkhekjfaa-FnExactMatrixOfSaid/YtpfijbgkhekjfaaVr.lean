/-
  Between two vectors, and a vector turned. No condition.
-/
import Derived.Test.YtpfijbgkhekjfaaVb
import Derived.Test.YtpfijbgkhekjfaaVf
set_option linter.unusedVariables false
namespace Go.Proofs.Ytpfijbgkhekjfaa
open Go.RowKit Go.Proofs.Ytpfijbgkhekjfaa.Fl

def betweenC (u v : V3) (s : Option Nat) : V3 := addC u (scaleC (lessC v u) s)
def rotC (t : V4) (v : V3) : V3 :=
  addC (addC v (scaleC (scaleC (crossC (axisC t) v) (some 1073741824)) t.w)) (crossC (axisC t) (scaleC (crossC (axisC t) v) (some 1073741824)))

set_option maxHeartbeats 4000000 in
set_option maxRecDepth 20000 in
theorem c_impl_RotateBy {tw tx ty tz ax ay az : Nat} {Ct : V4} {Ca : V3} (ht : Fv4 tw tx ty tz Ct) (ha : Fv3 ax ay az Ca) (w : World) : Calls Try.prog 39 #[turn tw tx ty tz, vec ax ay az] w (RetV (rotC Ct Ca) w) := by
  go_enter Try.func39, Try.ntmps39
  go_upto_region 1 with fail
  refine wp_name (fun wr => HasF4 wr w.heap.size tw tx ty tz ∧ HasF3 wr (w.heap.size + 1) ax ay az ∧ HasF3 wr (w.heap.size + 2) 0 0 0 ∧ Below w.heap.size w wr) ⟨⟨⟨by go_simp, by go_simp, by go_simp, by go_simp⟩, fun o => by go_simp⟩, ⟨⟨by go_simp, by go_simp, by go_simp⟩, fun o => by go_simp⟩, ⟨⟨by go_simp, by go_simp, by go_simp⟩, fun o => by go_simp⟩, by (repeat (first | exact Below.refl _ _ | (refine below_drewN ?_ _) | (refine Below.drew ?_) | (refine Below.setCell ?_ (by first | omega | (simp; try omega)) _) | (refine Below.alloc ?_ (by first | omega | (simp; try omega)) _) | (refine Below.trans ?_ (Below.mono (by assumption) (by first | omega | (simp; try omega))))))⟩ ?_
  rintro W1 ⟨hp0, hp1, hp2, hbel⟩
  have LW1hp0 := hp0.lt; have LW1hp1 := hp1.lt; have LW1hp2 := hp2.lt; have SW1 := hbel.size
  obtain ⟨⟨c0_0, c0_1, c0_2, c0_3⟩, fz0⟩ := id hp0
  obtain ⟨⟨c1_0, c1_1, c1_2⟩, fz1⟩ := id hp1
  obtain ⟨⟨c2_0, c2_1, c2_2⟩, fz2⟩ := id hp2
  go_wp2_with fail
  refine (c_Turn_vector ht _).mono ?_
  rintro e W1c ⟨⟨x1, y1, z1, rfl, hv1⟩, hb⟩
  clear c0_0 c0_1 c0_2 c0_3 c1_0 c1_1 c1_2 c2_0 c2_1 c2_2 fz0 fz1 fz2
  replace hp0 := hp0.below hb
  replace hp1 := hp1.below hb
  replace hp2 := hp2.below hb
  replace hbel := hbel.trans (hb.mono hbel.size)
  clear hb
  have LW1chp0 := hp0.lt; have LW1chp1 := hp1.lt; have LW1chp2 := hp2.lt; have SW1c := hbel.size
  obtain ⟨⟨c0_0, c0_1, c0_2, c0_3⟩, fz0⟩ := id hp0
  obtain ⟨⟨c1_0, c1_1, c1_2⟩, fz1⟩ := id hp1
  obtain ⟨⟨c2_0, c2_1, c2_2⟩, fz2⟩ := id hp2
  go_upto_region 2 with fail
  refine wp_name (fun wr => HasF4 wr w.heap.size tw tx ty tz ∧ HasF3 wr (w.heap.size + 1) ax ay az ∧ HasF3 wr (w.heap.size + 2) 0 0 0 ∧ HasF3 wr W1c.heap.size x1 y1 z1 ∧ Below w.heap.size w wr) ⟨by (repeat (first | assumption | (refine HasF3.set ?_ _ _ (by first | omega | (simp; try omega))) | (refine HasF4.set ?_ _ _ (by first | omega | (simp; try omega))) | (refine HasF3.alloc ?_ _) | (refine HasF4.alloc ?_ _) | (refine HasF3.drewN ?_ _) | (refine HasF4.drewN ?_ _))), by (repeat (first | assumption | (refine HasF3.set ?_ _ _ (by first | omega | (simp; try omega))) | (refine HasF4.set ?_ _ _ (by first | omega | (simp; try omega))) | (refine HasF3.alloc ?_ _) | (refine HasF4.alloc ?_ _) | (refine HasF3.drewN ?_ _) | (refine HasF4.drewN ?_ _))), by (repeat (first | assumption | (refine HasF3.set ?_ _ _ (by first | omega | (simp; try omega))) | (refine HasF4.set ?_ _ _ (by first | omega | (simp; try omega))) | (refine HasF3.alloc ?_ _) | (refine HasF4.alloc ?_ _) | (refine HasF3.drewN ?_ _) | (refine HasF4.drewN ?_ _))), ⟨⟨by first | simp | go_simp, by first | simp | go_simp, by first | simp | go_simp⟩, fun o => by simp [*]⟩, by (repeat (first | exact Below.refl _ _ | (refine below_drewN ?_ _) | (refine Below.drew ?_) | (refine Below.setCell ?_ (by first | omega | (simp; try omega)) _) | (refine Below.alloc ?_ (by first | omega | (simp; try omega)) _) | (refine Below.trans ?_ (Below.mono (by assumption) (by first | omega | (simp; try omega))))))⟩ ?_
  clear hbel hp0 hp1 hp2 c0_0 c0_1 c0_2 c0_3 c1_0 c1_1 c1_2 c2_0 c2_1 c2_2 fz0 fz1 fz2
  rintro W2n ⟨hp0, hp1, hp2, hp3, hbel⟩
  have LW2nhp0 := hp0.lt; have LW2nhp1 := hp1.lt; have LW2nhp2 := hp2.lt; have LW2nhp3 := hp3.lt; have SW2n := hbel.size
  obtain ⟨⟨c0_0, c0_1, c0_2, c0_3⟩, fz0⟩ := id hp0
  obtain ⟨⟨c1_0, c1_1, c1_2⟩, fz1⟩ := id hp1
  obtain ⟨⟨c2_0, c2_1, c2_2⟩, fz2⟩ := id hp2
  obtain ⟨⟨c3_0, c3_1, c3_2⟩, fz3⟩ := id hp3
  go_wp2_with fail
  refine (c_impl_CrossOf hv1 ha _).mono ?_
  rintro e W3c ⟨⟨x3, y3, z3, rfl, hv3⟩, hb⟩
  clear c0_0 c0_1 c0_2 c0_3 c1_0 c1_1 c1_2 c2_0 c2_1 c2_2 c3_0 c3_1 c3_2 fz0 fz1 fz2 fz3
  replace hp0 := hp0.below hb
  replace hp1 := hp1.below hb
  replace hp2 := hp2.below hb
  replace hp3 := hp3.below hb
  replace hbel := hbel.trans (hb.mono hbel.size)
  clear hb
  have LW3chp0 := hp0.lt; have LW3chp1 := hp1.lt; have LW3chp2 := hp2.lt; have LW3chp3 := hp3.lt; have SW3c := hbel.size
  obtain ⟨⟨c0_0, c0_1, c0_2, c0_3⟩, fz0⟩ := id hp0
  obtain ⟨⟨c1_0, c1_1, c1_2⟩, fz1⟩ := id hp1
  obtain ⟨⟨c2_0, c2_1, c2_2⟩, fz2⟩ := id hp2
  obtain ⟨⟨c3_0, c3_1, c3_2⟩, fz3⟩ := id hp3
  go_wp2_with fail
  refine (c_impl_ScaleVector hv3 (fvc rfl : Fv .f32 1073741824 (some 1073741824)) _).mono ?_
  rintro e W4c ⟨⟨x4, y4, z4, rfl, hv4⟩, hb⟩
  clear c0_0 c0_1 c0_2 c0_3 c1_0 c1_1 c1_2 c2_0 c2_1 c2_2 c3_0 c3_1 c3_2 fz0 fz1 fz2 fz3
  replace hp0 := hp0.below hb
  replace hp1 := hp1.below hb
  replace hp2 := hp2.below hb
  replace hp3 := hp3.below hb
  replace hbel := hbel.trans (hb.mono hbel.size)
  clear hb
  have LW4chp0 := hp0.lt; have LW4chp1 := hp1.lt; have LW4chp2 := hp2.lt; have LW4chp3 := hp3.lt; have SW4c := hbel.size
  obtain ⟨⟨c0_0, c0_1, c0_2, c0_3⟩, fz0⟩ := id hp0
  obtain ⟨⟨c1_0, c1_1, c1_2⟩, fz1⟩ := id hp1
  obtain ⟨⟨c2_0, c2_1, c2_2⟩, fz2⟩ := id hp2
  obtain ⟨⟨c3_0, c3_1, c3_2⟩, fz3⟩ := id hp3
  go_upto_region 3 with fail
  refine wp_name (fun wr => HasF4 wr w.heap.size tw tx ty tz ∧ HasF3 wr (w.heap.size + 1) ax ay az ∧ HasF3 wr (w.heap.size + 2) 0 0 0 ∧ HasF3 wr W1c.heap.size x1 y1 z1 ∧ HasF3 wr W4c.heap.size x4 y4 z4 ∧ Below w.heap.size w wr) ⟨by (repeat (first | assumption | (refine HasF3.set ?_ _ _ (by first | omega | (simp; try omega))) | (refine HasF4.set ?_ _ _ (by first | omega | (simp; try omega))) | (refine HasF3.alloc ?_ _) | (refine HasF4.alloc ?_ _) | (refine HasF3.drewN ?_ _) | (refine HasF4.drewN ?_ _))), by (repeat (first | assumption | (refine HasF3.set ?_ _ _ (by first | omega | (simp; try omega))) | (refine HasF4.set ?_ _ _ (by first | omega | (simp; try omega))) | (refine HasF3.alloc ?_ _) | (refine HasF4.alloc ?_ _) | (refine HasF3.drewN ?_ _) | (refine HasF4.drewN ?_ _))), by (repeat (first | assumption | (refine HasF3.set ?_ _ _ (by first | omega | (simp; try omega))) | (refine HasF4.set ?_ _ _ (by first | omega | (simp; try omega))) | (refine HasF3.alloc ?_ _) | (refine HasF4.alloc ?_ _) | (refine HasF3.drewN ?_ _) | (refine HasF4.drewN ?_ _))), by (repeat (first | assumption | (refine HasF3.set ?_ _ _ (by first | omega | (simp; try omega))) | (refine HasF4.set ?_ _ _ (by first | omega | (simp; try omega))) | (refine HasF3.alloc ?_ _) | (refine HasF4.alloc ?_ _) | (refine HasF3.drewN ?_ _) | (refine HasF4.drewN ?_ _))), ⟨⟨by first | simp | go_simp, by first | simp | go_simp, by first | simp | go_simp⟩, fun o => by simp [*]⟩, by (repeat (first | exact Below.refl _ _ | (refine below_drewN ?_ _) | (refine Below.drew ?_) | (refine Below.setCell ?_ (by first | omega | (simp; try omega)) _) | (refine Below.alloc ?_ (by first | omega | (simp; try omega)) _) | (refine Below.trans ?_ (Below.mono (by assumption) (by first | omega | (simp; try omega))))))⟩ ?_
  clear hbel hp0 hp1 hp2 hp3 c0_0 c0_1 c0_2 c0_3 c1_0 c1_1 c1_2 c2_0 c2_1 c2_2 c3_0 c3_1 c3_2 fz0 fz1 fz2 fz3
  rintro W5n ⟨hp0, hp1, hp2, hp3, hp4, hbel⟩
  have LW5nhp0 := hp0.lt; have LW5nhp1 := hp1.lt; have LW5nhp2 := hp2.lt; have LW5nhp3 := hp3.lt; have LW5nhp4 := hp4.lt; have SW5n := hbel.size
  refine wp_region_drawn [(13, isV (vec ax ay az)), (14, isV (vec x4 y4 z4)), (15, isV (.pointer (some ⟨w.heap.size, 0, none⟩))), (16, isV (.float .f32 tw)), (17, isVec (scaleC (scaleC (crossC (axisC (Ct)) (Ca)) (some 1073741824)) ((Ct).w))), (18, isVec (addC (Ca) (scaleC (scaleC (crossC (axisC (Ct)) (Ca)) (some 1073741824)) ((Ct).w)))), (19, isV (vec x1 y1 z1)), (20, isV (vec x4 y4 z4)), (21, isVec (crossC (axisC (Ct)) (scaleC (crossC (axisC (Ct)) (Ca)) (some 1073741824)))), (22, isVec (addC (addC (Ca) (scaleC (scaleC (crossC (axisC (Ct)) (Ca)) (some 1073741824)) ((Ct).w))) (crossC (axisC (Ct)) (scaleC (crossC (axisC (Ct)) (Ca)) (some 1073741824)))))]
    (fun wr => HasF4 wr w.heap.size tw tx ty tz ∧ HasF3 wr (w.heap.size + 1) ax ay az ∧ HasF3 wr (w.heap.size + 2) 0 0 0 ∧ HasF3 wr W1c.heap.size x1 y1 z1 ∧ HasF3 wr W4c.heap.size x4 y4 z4 ∧ Below W5n.heap.size W5n wr)
    (by kernel_rfl) (by kernel_rfl) (by kernel_rfl) (by kernel_rfl) (Nat.le_of_ble_eq_true (by kernel_rfl)) (by kernel_rfl) ?_ (fun _ _ hb h => ⟨h.1.below hb, h.2.1.below hb, h.2.2.1.below hb, h.2.2.2.1.below hb, h.2.2.2.2.1.below hb, h.2.2.2.2.2.trans (hb.mono h.2.2.2.2.2.size)⟩) ⟨hp0, hp1, hp2, hp3, hp4, (Below.refl _ _).drew⟩ ?_ ?_
  · intro p hp
    simp only [List.mem_cons, List.not_mem_nil, or_false] at hp
    rcases hp with rfl | rfl | rfl | rfl | rfl | rfl | rfl | rfl | rfl | rfl <;> first | exact mono_isV _ | exact mono_isVec _ | exact mono_isTurn _ | exact mono_isFlt _ _ | exact mono_isOwn3 _ | exact mono_isOwn4 _
  · intro i o hi ho f w1 hI hdep
    simp only [List.map_cons, List.map_nil, mix, List.contains_cons, List.contains_nil, Nat.reduceBEq, Bool.or_true, Bool.or_false, Bool.false_eq_true, if_true, if_false, Nat.reduceAdd, Nat.zero_add]
    have hcase : i = 0 ∨ i = 1 ∨ i = 2 ∨ i = 3 ∨ i = 4 ∨ i = 5 ∨ i = 6 ∨ i = 7 ∨ i = 8 ∨ i = 9 := by simp at hi; omega
    obtain ⟨⟨⟨c0_0, c0_1, c0_2, c0_3⟩, fz0⟩, ⟨⟨c1_0, c1_1, c1_2⟩, fz1⟩, ⟨⟨c2_0, c2_1, c2_2⟩, fz2⟩, ⟨⟨c3_0, c3_1, c3_2⟩, fz3⟩, ⟨⟨c4_0, c4_1, c4_2⟩, fz4⟩, hb1⟩ := hI
    have hsz := hb1.size
    rcases hcase with rfl | rfl | rfl | rfl | rfl | rfl | rfl | rfl | rfl | rfl
    · obtain rfl := Option.some.inj ho
      clear hdep ho hi
      generalize f 13 = v13 at *; generalize f 14 = v14 at *; generalize f 15 = v15 at *; generalize f 16 = v16 at *; generalize f 17 = v17 at *; generalize f 18 = v18 at *; generalize f 19 = v19 at *; generalize f 20 = v20 at *; generalize f 21 = v21 at *; generalize f 22 = v22 at *
      refine wpOp_step rfl (fun K hK => ?_)
      go_simp
      exact hK _ _ ⟨_, rfl, (fun p hp => by cases hp; rfl), Below.refl _ _⟩
    · obtain rfl := Option.some.inj ho
      clear hdep ho hi
      generalize f 13 = v13 at *; generalize f 14 = v14 at *; generalize f 15 = v15 at *; generalize f 16 = v16 at *; generalize f 17 = v17 at *; generalize f 18 = v18 at *; generalize f 19 = v19 at *; generalize f 20 = v20 at *; generalize f 21 = v21 at *; generalize f 22 = v22 at *
      refine wpOp_step rfl (fun K hK => ?_)
      go_simp
      exact hK _ _ ⟨_, rfl, (fun p hp => by cases hp; rfl), Below.refl _ _⟩
    · obtain rfl := Option.some.inj ho
      clear hdep ho hi
      generalize f 13 = v13 at *; generalize f 14 = v14 at *; generalize f 15 = v15 at *; generalize f 16 = v16 at *; generalize f 17 = v17 at *; generalize f 18 = v18 at *; generalize f 19 = v19 at *; generalize f 20 = v20 at *; generalize f 21 = v21 at *; generalize f 22 = v22 at *
      refine wpOp_step rfl (fun K hK => ?_)
      go_simp
      exact hK _ _ ⟨_, rfl, (fun p hp => by cases hp; rfl), Below.refl _ _⟩
    · obtain rfl := Option.some.inj ho
      have e2 : f 15 = (.pointer (some ⟨w.heap.size, 0, none⟩)) := hdep ⟨2, .data⟩ (by simp) rfl
      clear hdep ho hi
      generalize f 13 = v13 at *; generalize f 14 = v14 at *; generalize f 15 = v15 at *; generalize f 16 = v16 at *; generalize f 17 = v17 at *; generalize f 18 = v18 at *; generalize f 19 = v19 at *; generalize f 20 = v20 at *; generalize f 21 = v21 at *; generalize f 22 = v22 at *
      subst e2
      refine wpOp_step rfl (fun K hK => ?_)
      go_simp
      exact hK _ _ ⟨_, rfl, (fun p hp => by cases hp; rfl), Below.refl _ _⟩
    · obtain rfl := Option.some.inj ho
      have e1 : f 14 = (vec x4 y4 z4) := hdep ⟨1, .data⟩ (by simp) rfl
      have e3 : f 16 = (.float .f32 tw) := hdep ⟨3, .data⟩ (by simp) rfl
      clear hdep ho hi
      generalize f 13 = v13 at *; generalize f 14 = v14 at *; generalize f 15 = v15 at *; generalize f 16 = v16 at *; generalize f 17 = v17 at *; generalize f 18 = v18 at *; generalize f 19 = v19 at *; generalize f 20 = v20 at *; generalize f 21 = v21 at *; generalize f 22 = v22 at *
      subst e1 e3
      refine wpOp_step rfl (fun K hK => ?_)
      go_simp
      refine (c_impl_ScaleVector hv4 ht.w _).mono ?_
      rintro e w' ⟨⟨y0, y1, y2, rfl, hv⟩, hb⟩
      exact hK _ _ ⟨_, rfl, (fun p hp => by cases hp; exact ⟨_, _, _, rfl, hv⟩), hb⟩
    · obtain rfl := Option.some.inj ho
      have e0 : f 13 = (vec ax ay az) := hdep ⟨0, .data⟩ (by simp) rfl
      obtain ⟨x4, y4, z4, e4, hv4⟩ : isVec _ (f 17) w1 := hdep ⟨4, .data⟩ (by simp) rfl
      clear hdep ho hi
      generalize f 13 = v13 at *; generalize f 14 = v14 at *; generalize f 15 = v15 at *; generalize f 16 = v16 at *; generalize f 17 = v17 at *; generalize f 18 = v18 at *; generalize f 19 = v19 at *; generalize f 20 = v20 at *; generalize f 21 = v21 at *; generalize f 22 = v22 at *
      subst e0 e4
      refine wpOp_step rfl (fun K hK => ?_)
      go_simp
      refine (c_impl_AddVectors ha hv4 _).mono ?_
      rintro e w' ⟨⟨y0, y1, y2, rfl, hv⟩, hb⟩
      exact hK _ _ ⟨_, rfl, (fun p hp => by cases hp; exact ⟨_, _, _, rfl, hv⟩), hb⟩
    · obtain rfl := Option.some.inj ho
      clear hdep ho hi
      generalize f 13 = v13 at *; generalize f 14 = v14 at *; generalize f 15 = v15 at *; generalize f 16 = v16 at *; generalize f 17 = v17 at *; generalize f 18 = v18 at *; generalize f 19 = v19 at *; generalize f 20 = v20 at *; generalize f 21 = v21 at *; generalize f 22 = v22 at *
      refine wpOp_step rfl (fun K hK => ?_)
      go_simp
      exact hK _ _ ⟨_, rfl, (fun p hp => by cases hp; rfl), Below.refl _ _⟩
    · obtain rfl := Option.some.inj ho
      clear hdep ho hi
      generalize f 13 = v13 at *; generalize f 14 = v14 at *; generalize f 15 = v15 at *; generalize f 16 = v16 at *; generalize f 17 = v17 at *; generalize f 18 = v18 at *; generalize f 19 = v19 at *; generalize f 20 = v20 at *; generalize f 21 = v21 at *; generalize f 22 = v22 at *
      refine wpOp_step rfl (fun K hK => ?_)
      go_simp
      exact hK _ _ ⟨_, rfl, (fun p hp => by cases hp; rfl), Below.refl _ _⟩
    · obtain rfl := Option.some.inj ho
      have e6 : f 19 = (vec x1 y1 z1) := hdep ⟨6, .data⟩ (by simp) rfl
      have e7 : f 20 = (vec x4 y4 z4) := hdep ⟨7, .data⟩ (by simp) rfl
      clear hdep ho hi
      generalize f 13 = v13 at *; generalize f 14 = v14 at *; generalize f 15 = v15 at *; generalize f 16 = v16 at *; generalize f 17 = v17 at *; generalize f 18 = v18 at *; generalize f 19 = v19 at *; generalize f 20 = v20 at *; generalize f 21 = v21 at *; generalize f 22 = v22 at *
      subst e6 e7
      refine wpOp_step rfl (fun K hK => ?_)
      go_simp
      refine (c_impl_CrossOf hv1 hv4 _).mono ?_
      rintro e w' ⟨⟨y0, y1, y2, rfl, hv⟩, hb⟩
      exact hK _ _ ⟨_, rfl, (fun p hp => by cases hp; exact ⟨_, _, _, rfl, hv⟩), hb⟩
    · obtain rfl := Option.some.inj ho
      obtain ⟨x5, y5, z5, e5, hv5⟩ : isVec _ (f 18) w1 := hdep ⟨5, .data⟩ (by simp) rfl
      obtain ⟨x8, y8, z8, e8, hv8⟩ : isVec _ (f 21) w1 := hdep ⟨8, .data⟩ (by simp) rfl
      clear hdep ho hi
      generalize f 13 = v13 at *; generalize f 14 = v14 at *; generalize f 15 = v15 at *; generalize f 16 = v16 at *; generalize f 17 = v17 at *; generalize f 18 = v18 at *; generalize f 19 = v19 at *; generalize f 20 = v20 at *; generalize f 21 = v21 at *; generalize f 22 = v22 at *
      subst e5 e8
      refine wpOp_step rfl (fun K hK => ?_)
      go_simp
      refine (c_impl_AddVectors hv5 hv8 _).mono ?_
      rintro e w' ⟨⟨y0, y1, y2, rfl, hv⟩, hb⟩
      exact hK _ _ ⟨_, rfl, (fun p hp => by cases hp; exact ⟨_, _, _, rfl, hv⟩), hb⟩
  · intro f w1 hI hF
    simp only [List.map_cons, List.map_nil, mix, List.contains_cons, List.contains_nil, Nat.reduceBEq, Bool.or_true, Bool.or_false, Bool.false_eq_true, if_true, if_false, Nat.reduceAdd, Nat.zero_add]
    obtain ⟨hp0, hp1, hp2, hp3, hp4, hb1⟩ := hI
    have hsz := hb1.size
    replace hbel := hbel.trans (hb1.mono hbel.size)
    obtain ⟨x6_22, y6_22, z6_22, e9, hv6_22⟩ : isVec _ (f 22) w1 := hF 9 (by simp)
    clear hF
    generalize f 13 = v13 at *; generalize f 14 = v14 at *; generalize f 15 = v15 at *; generalize f 16 = v16 at *; generalize f 17 = v17 at *; generalize f 18 = v18 at *; generalize f 19 = v19 at *; generalize f 20 = v20 at *; generalize f 21 = v21 at *; generalize f 22 = v22 at *
    subst e9
    have Lw6hp0 := hp0.lt; have Lw6hp1 := hp1.lt; have Lw6hp2 := hp2.lt; have Lw6hp3 := hp3.lt; have Lw6hp4 := hp4.lt
    obtain ⟨⟨c0_0, c0_1, c0_2, c0_3⟩, fz0⟩ := id hp0
    obtain ⟨⟨c1_0, c1_1, c1_2⟩, fz1⟩ := id hp1
    obtain ⟨⟨c2_0, c2_1, c2_2⟩, fz2⟩ := id hp2
    obtain ⟨⟨c3_0, c3_1, c3_2⟩, fz3⟩ := id hp3
    obtain ⟨⟨c4_0, c4_1, c4_2⟩, fz4⟩ := id hp4
    change wpAny _ _ _ _ (0 + 1) _ _ _
    refine wpAny_all (rs := [10]) (by kernel_rfl) (by simp) ?_
    intro i hi
    obtain rfl : i = 10 := by simpa using hi
    clear hi
    refine wpOp_step rfl (fun K hK => ?_)
    go_simp
    refine hK _ _ (wpAny_done (by kernel_rfl) ?_ _)
    clear hK K
    go_wp2_with fail
    apply ret_vec; exact hv6_22.x; exact hv6_22.y; exact hv6_22.z; simp [results, Try.results39, go_sem, *]; rfl; (repeat (first | exact Below.refl _ _ | (refine below_drewN ?_ _) | (refine Below.drew ?_) | (refine Below.setCell ?_ (by first | omega | (simp; try omega)) _) | (refine Below.alloc ?_ (by first | omega | (simp; try omega)) _) | (refine Below.trans ?_ (Below.mono (by assumption) (by first | omega | (simp; try omega))))))

set_option maxHeartbeats 4000000 in
set_option maxRecDepth 20000 in
theorem c_spec_l02Rotate {tw tx ty tz ax ay az : Nat} {Ct : V4} {Ca : V3} (ht : Fv4 tw tx ty tz Ct) (ha : Fv3 ax ay az Ca) (w : World) : Calls Try.prog 38 #[turn tw tx ty tz, vec ax ay az] w (RetV (rotC Ct Ca) w) := by
  go_enter Try.func38, Try.ntmps38
  go_upto_region 1 with fail
  refine wp_name (fun wr => HasF4 wr w.heap.size tw tx ty tz ∧ HasF3 wr (w.heap.size + 1) ax ay az ∧ HasF3 wr (w.heap.size + 2) 0 0 0 ∧ Below w.heap.size w wr) ⟨⟨⟨by go_simp, by go_simp, by go_simp, by go_simp⟩, fun o => by go_simp⟩, ⟨⟨by go_simp, by go_simp, by go_simp⟩, fun o => by go_simp⟩, ⟨⟨by go_simp, by go_simp, by go_simp⟩, fun o => by go_simp⟩, by (repeat (first | exact Below.refl _ _ | (refine below_drewN ?_ _) | (refine Below.drew ?_) | (refine Below.setCell ?_ (by first | omega | (simp; try omega)) _) | (refine Below.alloc ?_ (by first | omega | (simp; try omega)) _) | (refine Below.trans ?_ (Below.mono (by assumption) (by first | omega | (simp; try omega))))))⟩ ?_
  rintro W1 ⟨hp0, hp1, hp2, hbel⟩
  have LW1hp0 := hp0.lt; have LW1hp1 := hp1.lt; have LW1hp2 := hp2.lt; have SW1 := hbel.size
  obtain ⟨⟨c0_0, c0_1, c0_2, c0_3⟩, fz0⟩ := id hp0
  obtain ⟨⟨c1_0, c1_1, c1_2⟩, fz1⟩ := id hp1
  obtain ⟨⟨c2_0, c2_1, c2_2⟩, fz2⟩ := id hp2
  go_wp2_with fail
  refine (c_spec_l02Axis ht _).mono ?_
  rintro e W1c ⟨⟨x1, y1, z1, rfl, hv1⟩, hb⟩
  clear c0_0 c0_1 c0_2 c0_3 c1_0 c1_1 c1_2 c2_0 c2_1 c2_2 fz0 fz1 fz2
  replace hp0 := hp0.below hb
  replace hp1 := hp1.below hb
  replace hp2 := hp2.below hb
  replace hbel := hbel.trans (hb.mono hbel.size)
  clear hb
  have LW1chp0 := hp0.lt; have LW1chp1 := hp1.lt; have LW1chp2 := hp2.lt; have SW1c := hbel.size
  obtain ⟨⟨c0_0, c0_1, c0_2, c0_3⟩, fz0⟩ := id hp0
  obtain ⟨⟨c1_0, c1_1, c1_2⟩, fz1⟩ := id hp1
  obtain ⟨⟨c2_0, c2_1, c2_2⟩, fz2⟩ := id hp2
  go_upto_region 2 with fail
  refine wp_name (fun wr => HasF4 wr w.heap.size tw tx ty tz ∧ HasF3 wr (w.heap.size + 1) ax ay az ∧ HasF3 wr (w.heap.size + 2) 0 0 0 ∧ HasF3 wr W1c.heap.size x1 y1 z1 ∧ Below w.heap.size w wr) ⟨by (repeat (first | assumption | (refine HasF3.set ?_ _ _ (by first | omega | (simp; try omega))) | (refine HasF4.set ?_ _ _ (by first | omega | (simp; try omega))) | (refine HasF3.alloc ?_ _) | (refine HasF4.alloc ?_ _) | (refine HasF3.drewN ?_ _) | (refine HasF4.drewN ?_ _))), by (repeat (first | assumption | (refine HasF3.set ?_ _ _ (by first | omega | (simp; try omega))) | (refine HasF4.set ?_ _ _ (by first | omega | (simp; try omega))) | (refine HasF3.alloc ?_ _) | (refine HasF4.alloc ?_ _) | (refine HasF3.drewN ?_ _) | (refine HasF4.drewN ?_ _))), by (repeat (first | assumption | (refine HasF3.set ?_ _ _ (by first | omega | (simp; try omega))) | (refine HasF4.set ?_ _ _ (by first | omega | (simp; try omega))) | (refine HasF3.alloc ?_ _) | (refine HasF4.alloc ?_ _) | (refine HasF3.drewN ?_ _) | (refine HasF4.drewN ?_ _))), ⟨⟨by first | simp | go_simp, by first | simp | go_simp, by first | simp | go_simp⟩, fun o => by simp [*]⟩, by (repeat (first | exact Below.refl _ _ | (refine below_drewN ?_ _) | (refine Below.drew ?_) | (refine Below.setCell ?_ (by first | omega | (simp; try omega)) _) | (refine Below.alloc ?_ (by first | omega | (simp; try omega)) _) | (refine Below.trans ?_ (Below.mono (by assumption) (by first | omega | (simp; try omega))))))⟩ ?_
  clear hbel hp0 hp1 hp2 c0_0 c0_1 c0_2 c0_3 c1_0 c1_1 c1_2 c2_0 c2_1 c2_2 fz0 fz1 fz2
  rintro W2n ⟨hp0, hp1, hp2, hp3, hbel⟩
  have LW2nhp0 := hp0.lt; have LW2nhp1 := hp1.lt; have LW2nhp2 := hp2.lt; have LW2nhp3 := hp3.lt; have SW2n := hbel.size
  obtain ⟨⟨c0_0, c0_1, c0_2, c0_3⟩, fz0⟩ := id hp0
  obtain ⟨⟨c1_0, c1_1, c1_2⟩, fz1⟩ := id hp1
  obtain ⟨⟨c2_0, c2_1, c2_2⟩, fz2⟩ := id hp2
  obtain ⟨⟨c3_0, c3_1, c3_2⟩, fz3⟩ := id hp3
  go_wp2_with fail
  refine (c_spec_l01Cross hv1 ha _).mono ?_
  rintro e W3c ⟨⟨x3, y3, z3, rfl, hv3⟩, hb⟩
  clear c0_0 c0_1 c0_2 c0_3 c1_0 c1_1 c1_2 c2_0 c2_1 c2_2 c3_0 c3_1 c3_2 fz0 fz1 fz2 fz3
  replace hp0 := hp0.below hb
  replace hp1 := hp1.below hb
  replace hp2 := hp2.below hb
  replace hp3 := hp3.below hb
  replace hbel := hbel.trans (hb.mono hbel.size)
  clear hb
  have LW3chp0 := hp0.lt; have LW3chp1 := hp1.lt; have LW3chp2 := hp2.lt; have LW3chp3 := hp3.lt; have SW3c := hbel.size
  obtain ⟨⟨c0_0, c0_1, c0_2, c0_3⟩, fz0⟩ := id hp0
  obtain ⟨⟨c1_0, c1_1, c1_2⟩, fz1⟩ := id hp1
  obtain ⟨⟨c2_0, c2_1, c2_2⟩, fz2⟩ := id hp2
  obtain ⟨⟨c3_0, c3_1, c3_2⟩, fz3⟩ := id hp3
  go_wp2_with fail
  refine (c_spec_l01Scale hv3 (fvc rfl : Fv .f32 1073741824 (some 1073741824)) _).mono ?_
  rintro e W4c ⟨⟨x4, y4, z4, rfl, hv4⟩, hb⟩
  clear c0_0 c0_1 c0_2 c0_3 c1_0 c1_1 c1_2 c2_0 c2_1 c2_2 c3_0 c3_1 c3_2 fz0 fz1 fz2 fz3
  replace hp0 := hp0.below hb
  replace hp1 := hp1.below hb
  replace hp2 := hp2.below hb
  replace hp3 := hp3.below hb
  replace hbel := hbel.trans (hb.mono hbel.size)
  clear hb
  have LW4chp0 := hp0.lt; have LW4chp1 := hp1.lt; have LW4chp2 := hp2.lt; have LW4chp3 := hp3.lt; have SW4c := hbel.size
  obtain ⟨⟨c0_0, c0_1, c0_2, c0_3⟩, fz0⟩ := id hp0
  obtain ⟨⟨c1_0, c1_1, c1_2⟩, fz1⟩ := id hp1
  obtain ⟨⟨c2_0, c2_1, c2_2⟩, fz2⟩ := id hp2
  obtain ⟨⟨c3_0, c3_1, c3_2⟩, fz3⟩ := id hp3
  go_upto_region 3 with fail
  refine wp_name (fun wr => HasF4 wr w.heap.size tw tx ty tz ∧ HasF3 wr (w.heap.size + 1) ax ay az ∧ HasF3 wr (w.heap.size + 2) 0 0 0 ∧ HasF3 wr W1c.heap.size x1 y1 z1 ∧ HasF3 wr W4c.heap.size x4 y4 z4 ∧ Below w.heap.size w wr) ⟨by (repeat (first | assumption | (refine HasF3.set ?_ _ _ (by first | omega | (simp; try omega))) | (refine HasF4.set ?_ _ _ (by first | omega | (simp; try omega))) | (refine HasF3.alloc ?_ _) | (refine HasF4.alloc ?_ _) | (refine HasF3.drewN ?_ _) | (refine HasF4.drewN ?_ _))), by (repeat (first | assumption | (refine HasF3.set ?_ _ _ (by first | omega | (simp; try omega))) | (refine HasF4.set ?_ _ _ (by first | omega | (simp; try omega))) | (refine HasF3.alloc ?_ _) | (refine HasF4.alloc ?_ _) | (refine HasF3.drewN ?_ _) | (refine HasF4.drewN ?_ _))), by (repeat (first | assumption | (refine HasF3.set ?_ _ _ (by first | omega | (simp; try omega))) | (refine HasF4.set ?_ _ _ (by first | omega | (simp; try omega))) | (refine HasF3.alloc ?_ _) | (refine HasF4.alloc ?_ _) | (refine HasF3.drewN ?_ _) | (refine HasF4.drewN ?_ _))), by (repeat (first | assumption | (refine HasF3.set ?_ _ _ (by first | omega | (simp; try omega))) | (refine HasF4.set ?_ _ _ (by first | omega | (simp; try omega))) | (refine HasF3.alloc ?_ _) | (refine HasF4.alloc ?_ _) | (refine HasF3.drewN ?_ _) | (refine HasF4.drewN ?_ _))), ⟨⟨by first | simp | go_simp, by first | simp | go_simp, by first | simp | go_simp⟩, fun o => by simp [*]⟩, by (repeat (first | exact Below.refl _ _ | (refine below_drewN ?_ _) | (refine Below.drew ?_) | (refine Below.setCell ?_ (by first | omega | (simp; try omega)) _) | (refine Below.alloc ?_ (by first | omega | (simp; try omega)) _) | (refine Below.trans ?_ (Below.mono (by assumption) (by first | omega | (simp; try omega))))))⟩ ?_
  clear hbel hp0 hp1 hp2 hp3 c0_0 c0_1 c0_2 c0_3 c1_0 c1_1 c1_2 c2_0 c2_1 c2_2 c3_0 c3_1 c3_2 fz0 fz1 fz2 fz3
  rintro W5n ⟨hp0, hp1, hp2, hp3, hp4, hbel⟩
  have LW5nhp0 := hp0.lt; have LW5nhp1 := hp1.lt; have LW5nhp2 := hp2.lt; have LW5nhp3 := hp3.lt; have LW5nhp4 := hp4.lt; have SW5n := hbel.size
  refine wp_region_drawn [(13, isV (vec ax ay az)), (14, isV (vec x4 y4 z4)), (15, isV (.pointer (some ⟨w.heap.size, 0, none⟩))), (16, isV (.float .f32 tw)), (17, isVec (scaleC (scaleC (crossC (axisC (Ct)) (Ca)) (some 1073741824)) ((Ct).w))), (18, isVec (addC (Ca) (scaleC (scaleC (crossC (axisC (Ct)) (Ca)) (some 1073741824)) ((Ct).w)))), (19, isV (vec x1 y1 z1)), (20, isV (vec x4 y4 z4)), (21, isVec (crossC (axisC (Ct)) (scaleC (crossC (axisC (Ct)) (Ca)) (some 1073741824)))), (22, isVec (addC (addC (Ca) (scaleC (scaleC (crossC (axisC (Ct)) (Ca)) (some 1073741824)) ((Ct).w))) (crossC (axisC (Ct)) (scaleC (crossC (axisC (Ct)) (Ca)) (some 1073741824)))))]
    (fun wr => HasF4 wr w.heap.size tw tx ty tz ∧ HasF3 wr (w.heap.size + 1) ax ay az ∧ HasF3 wr (w.heap.size + 2) 0 0 0 ∧ HasF3 wr W1c.heap.size x1 y1 z1 ∧ HasF3 wr W4c.heap.size x4 y4 z4 ∧ Below W5n.heap.size W5n wr)
    (by kernel_rfl) (by kernel_rfl) (by kernel_rfl) (by kernel_rfl) (Nat.le_of_ble_eq_true (by kernel_rfl)) (by kernel_rfl) ?_ (fun _ _ hb h => ⟨h.1.below hb, h.2.1.below hb, h.2.2.1.below hb, h.2.2.2.1.below hb, h.2.2.2.2.1.below hb, h.2.2.2.2.2.trans (hb.mono h.2.2.2.2.2.size)⟩) ⟨hp0, hp1, hp2, hp3, hp4, (Below.refl _ _).drew⟩ ?_ ?_
  · intro p hp
    simp only [List.mem_cons, List.not_mem_nil, or_false] at hp
    rcases hp with rfl | rfl | rfl | rfl | rfl | rfl | rfl | rfl | rfl | rfl <;> first | exact mono_isV _ | exact mono_isVec _ | exact mono_isTurn _ | exact mono_isFlt _ _ | exact mono_isOwn3 _ | exact mono_isOwn4 _
  · intro i o hi ho f w1 hI hdep
    simp only [List.map_cons, List.map_nil, mix, List.contains_cons, List.contains_nil, Nat.reduceBEq, Bool.or_true, Bool.or_false, Bool.false_eq_true, if_true, if_false, Nat.reduceAdd, Nat.zero_add]
    have hcase : i = 0 ∨ i = 1 ∨ i = 2 ∨ i = 3 ∨ i = 4 ∨ i = 5 ∨ i = 6 ∨ i = 7 ∨ i = 8 ∨ i = 9 := by simp at hi; omega
    obtain ⟨⟨⟨c0_0, c0_1, c0_2, c0_3⟩, fz0⟩, ⟨⟨c1_0, c1_1, c1_2⟩, fz1⟩, ⟨⟨c2_0, c2_1, c2_2⟩, fz2⟩, ⟨⟨c3_0, c3_1, c3_2⟩, fz3⟩, ⟨⟨c4_0, c4_1, c4_2⟩, fz4⟩, hb1⟩ := hI
    have hsz := hb1.size
    rcases hcase with rfl | rfl | rfl | rfl | rfl | rfl | rfl | rfl | rfl | rfl
    · obtain rfl := Option.some.inj ho
      clear hdep ho hi
      generalize f 13 = v13 at *; generalize f 14 = v14 at *; generalize f 15 = v15 at *; generalize f 16 = v16 at *; generalize f 17 = v17 at *; generalize f 18 = v18 at *; generalize f 19 = v19 at *; generalize f 20 = v20 at *; generalize f 21 = v21 at *; generalize f 22 = v22 at *
      refine wpOp_step rfl (fun K hK => ?_)
      go_simp
      exact hK _ _ ⟨_, rfl, (fun p hp => by cases hp; rfl), Below.refl _ _⟩
    · obtain rfl := Option.some.inj ho
      clear hdep ho hi
      generalize f 13 = v13 at *; generalize f 14 = v14 at *; generalize f 15 = v15 at *; generalize f 16 = v16 at *; generalize f 17 = v17 at *; generalize f 18 = v18 at *; generalize f 19 = v19 at *; generalize f 20 = v20 at *; generalize f 21 = v21 at *; generalize f 22 = v22 at *
      refine wpOp_step rfl (fun K hK => ?_)
      go_simp
      exact hK _ _ ⟨_, rfl, (fun p hp => by cases hp; rfl), Below.refl _ _⟩
    · obtain rfl := Option.some.inj ho
      clear hdep ho hi
      generalize f 13 = v13 at *; generalize f 14 = v14 at *; generalize f 15 = v15 at *; generalize f 16 = v16 at *; generalize f 17 = v17 at *; generalize f 18 = v18 at *; generalize f 19 = v19 at *; generalize f 20 = v20 at *; generalize f 21 = v21 at *; generalize f 22 = v22 at *
      refine wpOp_step rfl (fun K hK => ?_)
      go_simp
      exact hK _ _ ⟨_, rfl, (fun p hp => by cases hp; rfl), Below.refl _ _⟩
    · obtain rfl := Option.some.inj ho
      have e2 : f 15 = (.pointer (some ⟨w.heap.size, 0, none⟩)) := hdep ⟨2, .data⟩ (by simp) rfl
      clear hdep ho hi
      generalize f 13 = v13 at *; generalize f 14 = v14 at *; generalize f 15 = v15 at *; generalize f 16 = v16 at *; generalize f 17 = v17 at *; generalize f 18 = v18 at *; generalize f 19 = v19 at *; generalize f 20 = v20 at *; generalize f 21 = v21 at *; generalize f 22 = v22 at *
      subst e2
      refine wpOp_step rfl (fun K hK => ?_)
      go_simp
      exact hK _ _ ⟨_, rfl, (fun p hp => by cases hp; rfl), Below.refl _ _⟩
    · obtain rfl := Option.some.inj ho
      have e1 : f 14 = (vec x4 y4 z4) := hdep ⟨1, .data⟩ (by simp) rfl
      have e3 : f 16 = (.float .f32 tw) := hdep ⟨3, .data⟩ (by simp) rfl
      clear hdep ho hi
      generalize f 13 = v13 at *; generalize f 14 = v14 at *; generalize f 15 = v15 at *; generalize f 16 = v16 at *; generalize f 17 = v17 at *; generalize f 18 = v18 at *; generalize f 19 = v19 at *; generalize f 20 = v20 at *; generalize f 21 = v21 at *; generalize f 22 = v22 at *
      subst e1 e3
      refine wpOp_step rfl (fun K hK => ?_)
      go_simp
      refine (c_spec_l01Scale hv4 ht.w _).mono ?_
      rintro e w' ⟨⟨y0, y1, y2, rfl, hv⟩, hb⟩
      exact hK _ _ ⟨_, rfl, (fun p hp => by cases hp; exact ⟨_, _, _, rfl, hv⟩), hb⟩
    · obtain rfl := Option.some.inj ho
      have e0 : f 13 = (vec ax ay az) := hdep ⟨0, .data⟩ (by simp) rfl
      obtain ⟨x4, y4, z4, e4, hv4⟩ : isVec _ (f 17) w1 := hdep ⟨4, .data⟩ (by simp) rfl
      clear hdep ho hi
      generalize f 13 = v13 at *; generalize f 14 = v14 at *; generalize f 15 = v15 at *; generalize f 16 = v16 at *; generalize f 17 = v17 at *; generalize f 18 = v18 at *; generalize f 19 = v19 at *; generalize f 20 = v20 at *; generalize f 21 = v21 at *; generalize f 22 = v22 at *
      subst e0 e4
      refine wpOp_step rfl (fun K hK => ?_)
      go_simp
      refine (c_spec_l01Add ha hv4 _).mono ?_
      rintro e w' ⟨⟨y0, y1, y2, rfl, hv⟩, hb⟩
      exact hK _ _ ⟨_, rfl, (fun p hp => by cases hp; exact ⟨_, _, _, rfl, hv⟩), hb⟩
    · obtain rfl := Option.some.inj ho
      clear hdep ho hi
      generalize f 13 = v13 at *; generalize f 14 = v14 at *; generalize f 15 = v15 at *; generalize f 16 = v16 at *; generalize f 17 = v17 at *; generalize f 18 = v18 at *; generalize f 19 = v19 at *; generalize f 20 = v20 at *; generalize f 21 = v21 at *; generalize f 22 = v22 at *
      refine wpOp_step rfl (fun K hK => ?_)
      go_simp
      exact hK _ _ ⟨_, rfl, (fun p hp => by cases hp; rfl), Below.refl _ _⟩
    · obtain rfl := Option.some.inj ho
      clear hdep ho hi
      generalize f 13 = v13 at *; generalize f 14 = v14 at *; generalize f 15 = v15 at *; generalize f 16 = v16 at *; generalize f 17 = v17 at *; generalize f 18 = v18 at *; generalize f 19 = v19 at *; generalize f 20 = v20 at *; generalize f 21 = v21 at *; generalize f 22 = v22 at *
      refine wpOp_step rfl (fun K hK => ?_)
      go_simp
      exact hK _ _ ⟨_, rfl, (fun p hp => by cases hp; rfl), Below.refl _ _⟩
    · obtain rfl := Option.some.inj ho
      have e6 : f 19 = (vec x1 y1 z1) := hdep ⟨6, .data⟩ (by simp) rfl
      have e7 : f 20 = (vec x4 y4 z4) := hdep ⟨7, .data⟩ (by simp) rfl
      clear hdep ho hi
      generalize f 13 = v13 at *; generalize f 14 = v14 at *; generalize f 15 = v15 at *; generalize f 16 = v16 at *; generalize f 17 = v17 at *; generalize f 18 = v18 at *; generalize f 19 = v19 at *; generalize f 20 = v20 at *; generalize f 21 = v21 at *; generalize f 22 = v22 at *
      subst e6 e7
      refine wpOp_step rfl (fun K hK => ?_)
      go_simp
      refine (c_spec_l01Cross hv1 hv4 _).mono ?_
      rintro e w' ⟨⟨y0, y1, y2, rfl, hv⟩, hb⟩
      exact hK _ _ ⟨_, rfl, (fun p hp => by cases hp; exact ⟨_, _, _, rfl, hv⟩), hb⟩
    · obtain rfl := Option.some.inj ho
      obtain ⟨x5, y5, z5, e5, hv5⟩ : isVec _ (f 18) w1 := hdep ⟨5, .data⟩ (by simp) rfl
      obtain ⟨x8, y8, z8, e8, hv8⟩ : isVec _ (f 21) w1 := hdep ⟨8, .data⟩ (by simp) rfl
      clear hdep ho hi
      generalize f 13 = v13 at *; generalize f 14 = v14 at *; generalize f 15 = v15 at *; generalize f 16 = v16 at *; generalize f 17 = v17 at *; generalize f 18 = v18 at *; generalize f 19 = v19 at *; generalize f 20 = v20 at *; generalize f 21 = v21 at *; generalize f 22 = v22 at *
      subst e5 e8
      refine wpOp_step rfl (fun K hK => ?_)
      go_simp
      refine (c_spec_l01Add hv5 hv8 _).mono ?_
      rintro e w' ⟨⟨y0, y1, y2, rfl, hv⟩, hb⟩
      exact hK _ _ ⟨_, rfl, (fun p hp => by cases hp; exact ⟨_, _, _, rfl, hv⟩), hb⟩
  · intro f w1 hI hF
    simp only [List.map_cons, List.map_nil, mix, List.contains_cons, List.contains_nil, Nat.reduceBEq, Bool.or_true, Bool.or_false, Bool.false_eq_true, if_true, if_false, Nat.reduceAdd, Nat.zero_add]
    obtain ⟨hp0, hp1, hp2, hp3, hp4, hb1⟩ := hI
    have hsz := hb1.size
    replace hbel := hbel.trans (hb1.mono hbel.size)
    obtain ⟨x6_22, y6_22, z6_22, e9, hv6_22⟩ : isVec _ (f 22) w1 := hF 9 (by simp)
    clear hF
    generalize f 13 = v13 at *; generalize f 14 = v14 at *; generalize f 15 = v15 at *; generalize f 16 = v16 at *; generalize f 17 = v17 at *; generalize f 18 = v18 at *; generalize f 19 = v19 at *; generalize f 20 = v20 at *; generalize f 21 = v21 at *; generalize f 22 = v22 at *
    subst e9
    have Lw6hp0 := hp0.lt; have Lw6hp1 := hp1.lt; have Lw6hp2 := hp2.lt; have Lw6hp3 := hp3.lt; have Lw6hp4 := hp4.lt
    obtain ⟨⟨c0_0, c0_1, c0_2, c0_3⟩, fz0⟩ := id hp0
    obtain ⟨⟨c1_0, c1_1, c1_2⟩, fz1⟩ := id hp1
    obtain ⟨⟨c2_0, c2_1, c2_2⟩, fz2⟩ := id hp2
    obtain ⟨⟨c3_0, c3_1, c3_2⟩, fz3⟩ := id hp3
    obtain ⟨⟨c4_0, c4_1, c4_2⟩, fz4⟩ := id hp4
    change wpAny _ _ _ _ (0 + 1) _ _ _
    refine wpAny_all (rs := [10]) (by kernel_rfl) (by simp) ?_
    intro i hi
    obtain rfl : i = 10 := by simpa using hi
    clear hi
    refine wpOp_step rfl (fun K hK => ?_)
    go_simp
    refine hK _ _ (wpAny_done (by kernel_rfl) ?_ _)
    clear hK K
    go_wp2_with fail
    apply ret_vec; exact hv6_22.x; exact hv6_22.y; exact hv6_22.z; simp [results, Try.results38, go_sem, *]; rfl; (repeat (first | exact Below.refl _ _ | (refine below_drewN ?_ _) | (refine Below.drew ?_) | (refine Below.setCell ?_ (by first | omega | (simp; try omega)) _) | (refine Below.alloc ?_ (by first | omega | (simp; try omega)) _) | (refine Below.trans ?_ (Below.mono (by assumption) (by first | omega | (simp; try omega))))))

end Go.Proofs.Ytpfijbgkhekjfaa
