/-
  Swing and twist. No condition.
-/
import Derived.Test.YtpfijbgkhekjfaaVt
import Derived.Test.YtpfijbgkhekjfaaVm
import Derived.Test.YtpfijbgkhekjfaaVu
set_option linter.unusedVariables false
namespace Go.Proofs.Ytpfijbgkhekjfaa
open Go.RowKit Go.Proofs.Ytpfijbgkhekjfaa.Fl

def twistC (t : V4) (v : V3) : V4 := mendC (turnC t.w (scaleC v (innerC v (axisC t))))
def swingC (t : V4) (v : V3) : V4 := mulC t (invC (twistC t v))

set_option maxHeartbeats 40000000 in
set_option maxRecDepth 20000 in
theorem c_impl_SwingAndTwist {tw tx ty tz ax ay az : Nat} {Ct : V4} {Ca : V3} (ht : Fv4 tw tx ty tz Ct) (ha : Fv3 ax ay az Ca) (w : World) : Calls Try.prog 15 #[turn tw tx ty tz, vec ax ay az] w (RetTT (swingC Ct Ca) (twistC Ct Ca) w) := by
  go_enter Try.func15, Try.ntmps15
  go_upto_region 1 with fail
  refine wp_name (fun wr => HasF4 wr w.heap.size tw tx ty tz ∧ HasF3 wr (w.heap.size + 1) ax ay az ∧ HasF4 wr (w.heap.size + 2) 0 0 0 0 ∧ HasF4 wr (w.heap.size + 3) 0 0 0 0 ∧ Below w.heap.size w wr) ⟨⟨⟨by go_simp, by go_simp, by go_simp, by go_simp⟩, fun o => by go_simp⟩, ⟨⟨by go_simp, by go_simp, by go_simp⟩, fun o => by go_simp⟩, ⟨⟨by go_simp, by go_simp, by go_simp, by go_simp⟩, fun o => by go_simp⟩, ⟨⟨by go_simp, by go_simp, by go_simp, by go_simp⟩, fun o => by go_simp⟩, by (repeat (first | exact Below.refl _ _ | (refine below_drewN ?_ _) | (refine Below.drew ?_) | (refine Below.setCell ?_ (by first | omega | (simp; try omega)) _) | (refine Below.alloc ?_ (by first | omega | (simp; try omega)) _) | (refine Below.trans ?_ (Below.mono (by assumption) (by first | omega | (simp; try omega))))))⟩ ?_
  rintro W1 ⟨hp0, hp1, hp2, hp3, hbel⟩
  have LW1hp0 := hp0.lt; have LW1hp1 := hp1.lt; have LW1hp2 := hp2.lt; have LW1hp3 := hp3.lt; have SW1 := hbel.size
  refine wp_region_drawn [(7, isV (.pointer (some ⟨w.heap.size, 0, none⟩))), (8, isV (.float .f32 tw)), (9, isV (vec ax ay az)), (10, isV (vec ax ay az)), (11, isV (turn tw tx ty tz)), (12, isVec (axisC (Ct))), (13, isFlt .f32 (innerC (Ca) (axisC (Ct)))), (14, isVec (scaleC (Ca) (innerC (Ca) (axisC (Ct))))), (15, isTurn (turnC ((Ct).w) (scaleC (Ca) (innerC (Ca) (axisC (Ct)))))), (16, isTurn (mendC (turnC ((Ct).w) (scaleC (Ca) (innerC (Ca) (axisC (Ct))))))), (6, isOwn4 W1.heap.size)]
    (fun wr => HasF4 wr w.heap.size tw tx ty tz ∧ HasF3 wr (w.heap.size + 1) ax ay az ∧ HasF4 wr (w.heap.size + 2) 0 0 0 0 ∧ HasF4 wr (w.heap.size + 3) 0 0 0 0 ∧ Below W1.heap.size W1 wr)
    (by kernel_rfl) (by kernel_rfl) (by kernel_rfl) (by kernel_rfl) (Nat.le_of_ble_eq_true (by kernel_rfl)) (by kernel_rfl) ?_ (fun _ _ hb h => ⟨h.1.below hb, h.2.1.below hb, h.2.2.1.below hb, h.2.2.2.1.below hb, h.2.2.2.2.trans (hb.mono h.2.2.2.2.size)⟩) ⟨hp0, hp1, hp2, hp3, (Below.refl _ _).drew⟩ ?_ ?_
  · intro p hp
    simp only [List.mem_cons, List.not_mem_nil, or_false] at hp
    rcases hp with rfl | rfl | rfl | rfl | rfl | rfl | rfl | rfl | rfl | rfl | rfl <;> first | exact mono_isV _ | exact mono_isVec _ | exact mono_isTurn _ | exact mono_isFlt _ _ | exact mono_isOwn3 _ | exact mono_isOwn4 _
  · intro i o hi ho f w1 hI hdep
    simp only [List.map_cons, List.map_nil, mix, List.contains_cons, List.contains_nil, Nat.reduceBEq, Bool.or_true, Bool.or_false, Bool.false_eq_true, if_true, if_false, Nat.reduceAdd, Nat.zero_add]
    have hcase : i = 0 ∨ i = 1 ∨ i = 2 ∨ i = 3 ∨ i = 4 ∨ i = 5 ∨ i = 6 ∨ i = 7 ∨ i = 8 ∨ i = 9 ∨ i = 10 := by simp at hi; omega
    obtain ⟨⟨⟨c0_0, c0_1, c0_2, c0_3⟩, fz0⟩, ⟨⟨c1_0, c1_1, c1_2⟩, fz1⟩, ⟨⟨c2_0, c2_1, c2_2, c2_3⟩, fz2⟩, ⟨⟨c3_0, c3_1, c3_2, c3_3⟩, fz3⟩, hb1⟩ := hI
    have hsz := hb1.size
    rcases hcase with rfl | rfl | rfl | rfl | rfl | rfl | rfl | rfl | rfl | rfl | rfl
    · obtain rfl := Option.some.inj ho
      clear hdep ho hi
      generalize f 6 = v6 at *; generalize f 7 = v7 at *; generalize f 8 = v8 at *; generalize f 9 = v9 at *; generalize f 10 = v10 at *; generalize f 11 = v11 at *; generalize f 12 = v12 at *; generalize f 13 = v13 at *; generalize f 14 = v14 at *; generalize f 15 = v15 at *; generalize f 16 = v16 at *
      refine wpOp_step rfl (fun K hK => ?_)
      go_simp
      exact hK _ _ ⟨_, rfl, (fun p hp => by cases hp; rfl), Below.refl _ _⟩
    · obtain rfl := Option.some.inj ho
      have e0 : f 7 = (.pointer (some ⟨w.heap.size, 0, none⟩)) := hdep ⟨0, .data⟩ (by simp) rfl
      clear hdep ho hi
      generalize f 6 = v6 at *; generalize f 7 = v7 at *; generalize f 8 = v8 at *; generalize f 9 = v9 at *; generalize f 10 = v10 at *; generalize f 11 = v11 at *; generalize f 12 = v12 at *; generalize f 13 = v13 at *; generalize f 14 = v14 at *; generalize f 15 = v15 at *; generalize f 16 = v16 at *
      subst e0
      refine wpOp_step rfl (fun K hK => ?_)
      go_simp
      exact hK _ _ ⟨_, rfl, (fun p hp => by cases hp; rfl), Below.refl _ _⟩
    · obtain rfl := Option.some.inj ho
      clear hdep ho hi
      generalize f 6 = v6 at *; generalize f 7 = v7 at *; generalize f 8 = v8 at *; generalize f 9 = v9 at *; generalize f 10 = v10 at *; generalize f 11 = v11 at *; generalize f 12 = v12 at *; generalize f 13 = v13 at *; generalize f 14 = v14 at *; generalize f 15 = v15 at *; generalize f 16 = v16 at *
      refine wpOp_step rfl (fun K hK => ?_)
      go_simp
      exact hK _ _ ⟨_, rfl, (fun p hp => by cases hp; rfl), Below.refl _ _⟩
    · obtain rfl := Option.some.inj ho
      clear hdep ho hi
      generalize f 6 = v6 at *; generalize f 7 = v7 at *; generalize f 8 = v8 at *; generalize f 9 = v9 at *; generalize f 10 = v10 at *; generalize f 11 = v11 at *; generalize f 12 = v12 at *; generalize f 13 = v13 at *; generalize f 14 = v14 at *; generalize f 15 = v15 at *; generalize f 16 = v16 at *
      refine wpOp_step rfl (fun K hK => ?_)
      go_simp
      exact hK _ _ ⟨_, rfl, (fun p hp => by cases hp; rfl), Below.refl _ _⟩
    · obtain rfl := Option.some.inj ho
      clear hdep ho hi
      generalize f 6 = v6 at *; generalize f 7 = v7 at *; generalize f 8 = v8 at *; generalize f 9 = v9 at *; generalize f 10 = v10 at *; generalize f 11 = v11 at *; generalize f 12 = v12 at *; generalize f 13 = v13 at *; generalize f 14 = v14 at *; generalize f 15 = v15 at *; generalize f 16 = v16 at *
      refine wpOp_step rfl (fun K hK => ?_)
      go_simp
      exact hK _ _ ⟨_, rfl, (fun p hp => by cases hp; rfl), Below.refl _ _⟩
    · obtain rfl := Option.some.inj ho
      have e4 : f 11 = (turn tw tx ty tz) := hdep ⟨4, .data⟩ (by simp) rfl
      clear hdep ho hi
      generalize f 6 = v6 at *; generalize f 7 = v7 at *; generalize f 8 = v8 at *; generalize f 9 = v9 at *; generalize f 10 = v10 at *; generalize f 11 = v11 at *; generalize f 12 = v12 at *; generalize f 13 = v13 at *; generalize f 14 = v14 at *; generalize f 15 = v15 at *; generalize f 16 = v16 at *
      subst e4
      refine wpOp_step rfl (fun K hK => ?_)
      go_simp
      refine (c_Turn_vector ht _).mono ?_
      rintro e w' ⟨⟨y0, y1, y2, rfl, hv⟩, hb⟩
      exact hK _ _ ⟨_, rfl, (fun p hp => by cases hp; exact ⟨_, _, _, rfl, hv⟩), hb⟩
    · obtain rfl := Option.some.inj ho
      have e3 : f 10 = (vec ax ay az) := hdep ⟨3, .data⟩ (by simp) rfl
      obtain ⟨x5, y5, z5, e5, hv5⟩ : isVec _ (f 12) w1 := hdep ⟨5, .data⟩ (by simp) rfl
      clear hdep ho hi
      generalize f 6 = v6 at *; generalize f 7 = v7 at *; generalize f 8 = v8 at *; generalize f 9 = v9 at *; generalize f 10 = v10 at *; generalize f 11 = v11 at *; generalize f 12 = v12 at *; generalize f 13 = v13 at *; generalize f 14 = v14 at *; generalize f 15 = v15 at *; generalize f 16 = v16 at *
      subst e3 e5
      refine wpOp_step rfl (fun K hK => ?_)
      go_simp
      refine (c_impl_InnerOf ha hv5 _).mono ?_
      rintro e w' ⟨⟨y0, rfl, hv⟩, hb⟩
      exact hK _ _ ⟨_, rfl, (fun p hp => by cases hp; exact ⟨_, rfl, hv⟩), hb⟩
    · obtain rfl := Option.some.inj ho
      have e2 : f 9 = (vec ax ay az) := hdep ⟨2, .data⟩ (by simp) rfl
      obtain ⟨r6, e6, hv6⟩ : isFlt _ _ (f 13) w1 := hdep ⟨6, .data⟩ (by simp) rfl
      clear hdep ho hi
      generalize f 6 = v6 at *; generalize f 7 = v7 at *; generalize f 8 = v8 at *; generalize f 9 = v9 at *; generalize f 10 = v10 at *; generalize f 11 = v11 at *; generalize f 12 = v12 at *; generalize f 13 = v13 at *; generalize f 14 = v14 at *; generalize f 15 = v15 at *; generalize f 16 = v16 at *
      subst e2 e6
      refine wpOp_step rfl (fun K hK => ?_)
      go_simp
      refine (c_impl_ScaleVector ha hv6 _).mono ?_
      rintro e w' ⟨⟨y0, y1, y2, rfl, hv⟩, hb⟩
      exact hK _ _ ⟨_, rfl, (fun p hp => by cases hp; exact ⟨_, _, _, rfl, hv⟩), hb⟩
    · obtain rfl := Option.some.inj ho
      have e1 : f 8 = (.float .f32 tw) := hdep ⟨1, .data⟩ (by simp) rfl
      obtain ⟨x7, y7, z7, e7, hv7⟩ : isVec _ (f 14) w1 := hdep ⟨7, .data⟩ (by simp) rfl
      clear hdep ho hi
      generalize f 6 = v6 at *; generalize f 7 = v7 at *; generalize f 8 = v8 at *; generalize f 9 = v9 at *; generalize f 10 = v10 at *; generalize f 11 = v11 at *; generalize f 12 = v12 at *; generalize f 13 = v13 at *; generalize f 14 = v14 at *; generalize f 15 = v15 at *; generalize f 16 = v16 at *
      subst e1 e7
      refine wpOp_step rfl (fun K hK => ?_)
      go_simp
      refine (c_impl_turnOf ht.w hv7 _).mono ?_
      rintro e w' ⟨⟨y0, y1, y2, y3, rfl, hv⟩, hb⟩
      exact hK _ _ ⟨_, rfl, (fun p hp => by cases hp; exact ⟨_, _, _, _, rfl, hv⟩), hb⟩
    · obtain rfl := Option.some.inj ho
      obtain ⟨w8, x8, y8, z8, e8, hv8⟩ : isTurn _ (f 15) w1 := hdep ⟨8, .data⟩ (by simp) rfl
      clear hdep ho hi
      generalize f 6 = v6 at *; generalize f 7 = v7 at *; generalize f 8 = v8 at *; generalize f 9 = v9 at *; generalize f 10 = v10 at *; generalize f 11 = v11 at *; generalize f 12 = v12 at *; generalize f 13 = v13 at *; generalize f 14 = v14 at *; generalize f 15 = v15 at *; generalize f 16 = v16 at *
      subst e8
      refine wpOp_step rfl (fun K hK => ?_)
      go_simp
      refine (c_impl_MendTurn hv8 _).mono ?_
      rintro e w' ⟨⟨y0, y1, y2, y3, rfl, hv⟩, hb⟩
      exact hK _ _ ⟨_, rfl, (fun p hp => by cases hp; exact ⟨_, _, _, _, rfl, hv⟩), hb⟩
    · obtain rfl := Option.some.inj ho
      clear hdep ho hi
      generalize f 6 = v6 at *; generalize f 7 = v7 at *; generalize f 8 = v8 at *; generalize f 9 = v9 at *; generalize f 10 = v10 at *; generalize f 11 = v11 at *; generalize f 12 = v12 at *; generalize f 13 = v13 at *; generalize f 14 = v14 at *; generalize f 15 = v15 at *; generalize f 16 = v16 at *
      refine wpOp_step rfl (fun K hK => ?_)
      go_simp
      exact hK _ _ ⟨_, rfl, (fun p hp => by cases hp; exact ⟨_, rfl, own4_new _ _ hsz _ _ _ _ _⟩), (Below.refl _ _).alloc (Nat.le_refl _) _⟩
  · intro f w1 hI hF
    simp only [List.map_cons, List.map_nil, mix, List.contains_cons, List.contains_nil, Nat.reduceBEq, Bool.or_true, Bool.or_false, Bool.false_eq_true, if_true, if_false, Nat.reduceAdd, Nat.zero_add]
    obtain ⟨hp0, hp1, hp2, hp3, hb1⟩ := hI
    have hsz := hb1.size
    replace hbel := hbel.trans (hb1.mono hbel.size)
    obtain ⟨w1_16, x1_16, y1_16, z1_16, e9, hv1_16⟩ : isTurn _ (f 16) w1 := hF 9 (by simp)
    obtain ⟨b1_6, e10, hg1_6, ⟨q0, q1, q2, q3, ho6⟩, hf6⟩ : isOwn4 _ (f 6) w1 := hF 10 (by simp)
    have hp4 : HasF4 w1 b1_6 q0 q1 q2 q3 := ⟨ho6, hf6⟩
    clear ho6 hf6
    clear hF
    generalize f 6 = v6 at *; generalize f 7 = v7 at *; generalize f 8 = v8 at *; generalize f 9 = v9 at *; generalize f 10 = v10 at *; generalize f 11 = v11 at *; generalize f 12 = v12 at *; generalize f 13 = v13 at *; generalize f 14 = v14 at *; generalize f 15 = v15 at *; generalize f 16 = v16 at *
    subst e9 e10
    have Lw1hp0 := hp0.lt; have Lw1hp1 := hp1.lt; have Lw1hp2 := hp2.lt; have Lw1hp3 := hp3.lt; have Lw1hp4 := hp4.lt
    obtain ⟨⟨c0_0, c0_1, c0_2, c0_3⟩, fz0⟩ := id hp0
    obtain ⟨⟨c1_0, c1_1, c1_2⟩, fz1⟩ := id hp1
    obtain ⟨⟨c2_0, c2_1, c2_2, c2_3⟩, fz2⟩ := id hp2
    obtain ⟨⟨c3_0, c3_1, c3_2, c3_3⟩, fz3⟩ := id hp3
    obtain ⟨⟨c4_0, c4_1, c4_2, c4_3⟩, fz4⟩ := id hp4
    change wpAny _ _ _ _ (0 + 1) _ _ _
    refine wpAny_all (rs := [11]) (by kernel_rfl) (by simp) ?_
    intro i hi
    obtain rfl : i = 11 := by simpa using hi
    clear hi
    refine wpOp_step rfl (fun K hK => ?_)
    go_simp
    refine hK _ _ (wpAny_done (by kernel_rfl) ?_ _)
    clear hK K
    go_upto_region 2 with fail
    refine wp_name (fun wr => HasF4 wr w.heap.size tw tx ty tz ∧ HasF3 wr (w.heap.size + 1) ax ay az ∧ HasF4 wr (w.heap.size + 2) 0 0 0 0 ∧ HasF4 wr (w.heap.size + 3) 0 0 0 0 ∧ HasF4 wr b1_6 w1_16 x1_16 y1_16 z1_16 ∧ Below w.heap.size w wr) ⟨by (repeat (first | assumption | (refine HasF3.set ?_ _ _ (by first | omega | (simp; try omega))) | (refine HasF4.set ?_ _ _ (by first | omega | (simp; try omega))) | (refine HasF3.alloc ?_ _) | (refine HasF4.alloc ?_ _) | (refine HasF3.drewN ?_ _) | (refine HasF4.drewN ?_ _))), by (repeat (first | assumption | (refine HasF3.set ?_ _ _ (by first | omega | (simp; try omega))) | (refine HasF4.set ?_ _ _ (by first | omega | (simp; try omega))) | (refine HasF3.alloc ?_ _) | (refine HasF4.alloc ?_ _) | (refine HasF3.drewN ?_ _) | (refine HasF4.drewN ?_ _))), by (repeat (first | assumption | (refine HasF3.set ?_ _ _ (by first | omega | (simp; try omega))) | (refine HasF4.set ?_ _ _ (by first | omega | (simp; try omega))) | (refine HasF3.alloc ?_ _) | (refine HasF4.alloc ?_ _) | (refine HasF3.drewN ?_ _) | (refine HasF4.drewN ?_ _))), by (repeat (first | assumption | (refine HasF3.set ?_ _ _ (by first | omega | (simp; try omega))) | (refine HasF4.set ?_ _ _ (by first | omega | (simp; try omega))) | (refine HasF3.alloc ?_ _) | (refine HasF4.alloc ?_ _) | (refine HasF3.drewN ?_ _) | (refine HasF4.drewN ?_ _))), ⟨⟨by first | simp | go_simp, by first | simp | go_simp, by first | simp | go_simp, by first | simp | go_simp⟩, fun o => by simp [*]⟩, by (repeat (first | exact Below.refl _ _ | (refine below_drewN ?_ _) | (refine Below.drew ?_) | (refine Below.setCell ?_ (by first | omega | (simp; try omega)) _) | (refine Below.alloc ?_ (by first | omega | (simp; try omega)) _) | (refine Below.trans ?_ (Below.mono (by assumption) (by first | omega | (simp; try omega))))))⟩ ?_
    clear hbel hb1 hsz hp0 hp1 hp2 hp3 hp4 c0_0 c0_1 c0_2 c0_3 c1_0 c1_1 c1_2 c2_0 c2_1 c2_2 c2_3 c3_0 c3_1 c3_2 c3_3 c4_0 c4_1 c4_2 c4_3 fz0 fz1 fz2 fz3 fz4
    rintro W2n ⟨hp0, hp1, hp2, hp3, hp4, hbel⟩
    have LW2nhp0 := hp0.lt; have LW2nhp1 := hp1.lt; have LW2nhp2 := hp2.lt; have LW2nhp3 := hp3.lt; have LW2nhp4 := hp4.lt; have SW2n := hbel.size
    refine wp_region_put (fun g => g = (w.heap.size + 2) ∨ g = (w.heap.size + 3)) [4, 5]
      [FD.val 17 (isV (turn tw tx ty tz)), FD.val 18 (isV (turn w1_16 x1_16 y1_16 z1_16)), FD.val 19 (isTurn (invC (mendC (turnC ((Ct).w) (scaleC (Ca) (innerC (Ca) (axisC (Ct)))))))), FD.val 20 (isTurn (mulC (Ct) (invC (mendC (turnC ((Ct).w) (scaleC (Ca) (innerC (Ca) (axisC (Ct))))))))), FD.val 21 (isV (turn w1_16 x1_16 y1_16 z1_16)), FD.put 4 (isPut4 (mulC (Ct) (invC (mendC (turnC ((Ct).w) (scaleC (Ca) (innerC (Ca) (axisC (Ct))))))))), FD.put 5 (isPut4 (mendC (turnC ((Ct).w) (scaleC (Ca) (innerC (Ca) (axisC (Ct)))))))] [17, 18, 19, 20, 21] rfl
      (fun wr => HasF4 wr w.heap.size tw tx ty tz ∧ HasF3 wr (w.heap.size + 1) ax ay az ∧ HasF4 wr b1_6 w1_16 x1_16 y1_16 z1_16 ∧ Any4 wr (w.heap.size + 2) ∧ Any4 wr (w.heap.size + 3) ∧ Below w.heap.size w wr ∧ W2n.heap.size ≤ wr.heap.size)
      (by kernel_rfl) (by kernel_rfl) (by kernel_rfl) ?_ ?_ ?_ ?_ ?_ ?_ ?_
    · intro p hp
      simp only [List.mem_cons, List.not_mem_nil, or_false] at hp
      rcases hp with rfl | rfl | rfl | rfl | rfl | rfl | rfl <;> first | exact good_isV _ _ _ | exact good_isVec _ _ _ | exact good_isTurn _ _ _ | exact good_isFlt _ _ _ _ | exact good_isOwn3 _ _ _ | exact good_isOwn4 _ _ _ | exact good_isTup2 _ _ _ _ | exact good_put3 _ _ _ | exact good_put4 _ _ _
    · rintro wa wb hb ⟨i0, i1, i2, i3, i4, i5, i6⟩
      exact ⟨i0.below hb, i1.below hb, i2.below hb, i3.below hb, i4.below hb, i5.trans (hb.mono i5.size), Nat.le_trans i6 hb.size⟩
    · rintro g wa wb hg hi ⟨i0, i1, i2, i3, i4, i5, i6⟩
      change g = (w.heap.size + 2) ∨ g = (w.heap.size + 3) at hg
      exact ⟨i0.into hi (by omega), i1.into hi (by omega), i2.into hi (by omega), i3.into hi, i4.into hi, below_into i5 hi (by omega), (by rw [hi.size]; exact i6)⟩
    · exact ⟨hp0.below ((Below.refl _ _).drew), hp1.below ((Below.refl _ _).drew), hp4.below ((Below.refl _ _).drew), ⟨_, _, _, _, hp2.below ((Below.refl _ _).drew)⟩, ⟨_, _, _, _, hp3.below ((Below.refl _ _).drew)⟩, hbel.drew, Nat.le_refl _⟩
    · refine ⟨?_, ?_, ?_⟩
      · intro d b hd hb
        simp only [List.contains_cons, List.contains_nil, Bool.or_false, Bool.or_eq_true, beq_iff_eq] at hd
        rcases hd with rfl | rfl <;> cases hb <;> simp
      · intro d b hd hb
        simp only [List.contains_cons, List.contains_nil, Bool.or_false, Bool.or_eq_true, beq_iff_eq] at hd
        rcases hd with rfl | rfl <;> cases hb <;> (simp; omega)
      · intro d e b c hd he hne hb hc
        simp only [List.contains_cons, List.contains_nil, Bool.or_false, Bool.or_eq_true, beq_iff_eq] at hd he
        rcases hd with rfl | rfl <;> rcases he with rfl | rfl <;> first | exact absurd rfl hne | (cases hb; cases hc; simp)
    · intro i o hi ho f w1 hbase hI hS hdep
      simp only [mix, List.contains_cons, List.contains_nil, Nat.reduceBEq, Bool.or_true, Bool.or_false, Bool.false_eq_true, if_true, if_false, Nat.reduceAdd, Nat.zero_add]
      have hcase : i = 0 ∨ i = 1 ∨ i = 2 ∨ i = 3 ∨ i = 4 ∨ i = 5 ∨ i = 6 := by simp at hi; omega
      obtain ⟨⟨⟨c0_0, c0_1, c0_2, c0_3⟩, fz0⟩, ⟨⟨c1_0, c1_1, c1_2⟩, fz1⟩, ⟨⟨c2_0, c2_1, c2_2, c2_3⟩, fz2⟩, ⟨q0_0, q0_1, q0_2, q0_3, ha0⟩, ⟨q1_0, q1_1, q1_2, q1_3, ha1⟩, hbw, hsz⟩ := hI
      clear hbase hS
      rcases hcase with rfl | rfl | rfl | rfl | rfl | rfl | rfl
      · obtain rfl := Option.some.inj ho
        clear hdep ho hi
        generalize f 17 = v17 at *; generalize f 18 = v18 at *; generalize f 19 = v19 at *; generalize f 20 = v20 at *; generalize f 21 = v21 at *
        refine wpOp_step rfl (fun K hK => ?_)
        go_simp
        exact hK _ _ ⟨_, rfl, rfl, Below.refl _ _, (fun hc => absurd hc (by decide))⟩
      · obtain rfl := Option.some.inj ho
        clear hdep ho hi
        generalize f 17 = v17 at *; generalize f 18 = v18 at *; generalize f 19 = v19 at *; generalize f 20 = v20 at *; generalize f 21 = v21 at *
        refine wpOp_step rfl (fun K hK => ?_)
        go_simp
        exact hK _ _ ⟨_, rfl, rfl, Below.refl _ _, (fun hc => absurd hc (by decide))⟩
      · obtain rfl := Option.some.inj ho
        have e1 : f 18 = (turn w1_16 x1_16 y1_16 z1_16) := hdep ⟨1, .data⟩ (by simp) rfl
        clear hdep ho hi
        generalize f 17 = v17 at *; generalize f 18 = v18 at *; generalize f 19 = v19 at *; generalize f 20 = v20 at *; generalize f 21 = v21 at *
        subst e1
        refine wpOp_step rfl (fun K hK => ?_)
        go_simp
        refine (c_impl_InverseOf hv1_16 _).mono ?_
        rintro e w' ⟨⟨y0, y1, y2, y3, rfl, hv⟩, hb⟩
        exact hK _ _ ⟨_, rfl, ⟨_, _, _, _, rfl, hv⟩, hb, (fun hc => absurd hc (by decide))⟩
      · obtain rfl := Option.some.inj ho
        have e0 : f 17 = (turn tw tx ty tz) := hdep ⟨0, .data⟩ (by simp) rfl
        obtain ⟨w2, x2, y2, z2, e2, hv2⟩ : isTurn _ (f 19) w1 := hdep ⟨2, .data⟩ (by simp) rfl
        clear hdep ho hi
        generalize f 17 = v17 at *; generalize f 18 = v18 at *; generalize f 19 = v19 at *; generalize f 20 = v20 at *; generalize f 21 = v21 at *
        subst e0 e2
        refine wpOp_step rfl (fun K hK => ?_)
        go_simp
        refine (c_impl_MulTurns ht hv2 _).mono ?_
        rintro e w' ⟨⟨y0, y1, y2, y3, rfl, hv⟩, hb⟩
        exact hK _ _ ⟨_, rfl, ⟨_, _, _, _, rfl, hv⟩, hb, (fun hc => absurd hc (by decide))⟩
      · obtain rfl := Option.some.inj ho
        clear hdep ho hi
        generalize f 17 = v17 at *; generalize f 18 = v18 at *; generalize f 19 = v19 at *; generalize f 20 = v20 at *; generalize f 21 = v21 at *
        refine wpOp_step rfl (fun K hK => ?_)
        go_simp
        exact hK _ _ ⟨_, rfl, rfl, Below.refl _ _, (fun hc => absurd hc (by decide))⟩
      · obtain rfl := Option.some.inj ho
        obtain ⟨w3, x3, y3, z3, e3, hv3⟩ : isTurn _ (f 20) w1 := hdep ⟨3, .data⟩ (by simp) rfl
        clear hdep ho hi
        generalize f 17 = v17 at *; generalize f 18 = v18 at *; generalize f 19 = v19 at *; generalize f 20 = v20 at *; generalize f 21 = v21 at *
        subst e3
        have hinto := into_put4 w3 x3 y3 z3 ha0
        have hhas := has_put4 w3 x3 y3 z3 ha0
        obtain ⟨⟨m0, m1, m2, m3⟩, mf⟩ := id ha0
        refine wpOp_step rfl (fun K hK => ?_)
        go_simp
        exact hK _ _ ⟨rfl, _, rfl, ⟨_, _, _, _, hhas, hv3⟩, hinto⟩
      · obtain rfl := Option.some.inj ho
        have e4 : f 21 = (turn w1_16 x1_16 y1_16 z1_16) := hdep ⟨4, .data⟩ (by simp) rfl
        clear hdep ho hi
        generalize f 17 = v17 at *; generalize f 18 = v18 at *; generalize f 19 = v19 at *; generalize f 20 = v20 at *; generalize f 21 = v21 at *
        subst e4
        have hinto := into_put4 w1_16 x1_16 y1_16 z1_16 ha1
        have hhas := has_put4 w1_16 x1_16 y1_16 z1_16 ha1
        obtain ⟨⟨m0, m1, m2, m3⟩, mf⟩ := id ha1
        refine wpOp_step rfl (fun K hK => ?_)
        go_simp
        exact hK _ _ ⟨rfl, _, rfl, ⟨_, _, _, _, hhas, hv1_16⟩, hinto⟩
    · intro f w1 hbase hI hS hF
      simp only [mix, List.contains_cons, List.contains_nil, Nat.reduceBEq, Bool.or_true, Bool.or_false, Bool.false_eq_true, if_true, if_false, Nat.reduceAdd, Nat.zero_add]
      obtain ⟨hp0, hp1, hp4, _, _, hbw, hsz⟩ := hI
      clear hbel
      have hbel := hbw
      clear hbw
      have eb4 : f 4 = .pointer (some ⟨(w.heap.size + 2), 0, none⟩) := hbase 4 (by decide)
      obtain ⟨w3_4, x3_4, y3_4, z3_4, hp2, hv3_4⟩ : isPut4 (mulC (Ct) (invC (mendC (turnC ((Ct).w) (scaleC (Ca) (innerC (Ca) (axisC (Ct)))))))) (w.heap.size + 2) w1 := put_at eb4 (hF 5 (by simp))
      have eb5 : f 5 = .pointer (some ⟨(w.heap.size + 3), 0, none⟩) := hbase 5 (by decide)
      obtain ⟨w3_5, x3_5, y3_5, z3_5, hp3, hv3_5⟩ : isPut4 (mendC (turnC ((Ct).w) (scaleC (Ca) (innerC (Ca) (axisC (Ct)))))) (w.heap.size + 3) w1 := put_at eb5 (hF 6 (by simp))
      clear eb4 eb5
      clear hF hS hbase
      generalize f 17 = v17 at *; generalize f 18 = v18 at *; generalize f 19 = v19 at *; generalize f 20 = v20 at *; generalize f 21 = v21 at *
      have Lw3hp0 := hp0.lt; have Lw3hp1 := hp1.lt; have Lw3hp2 := hp2.lt; have Lw3hp3 := hp3.lt; have Lw3hp4 := hp4.lt
      obtain ⟨⟨c0_0, c0_1, c0_2, c0_3⟩, fz0⟩ := id hp0
      obtain ⟨⟨c1_0, c1_1, c1_2⟩, fz1⟩ := id hp1
      obtain ⟨⟨c2_0, c2_1, c2_2, c2_3⟩, fz2⟩ := id hp2
      obtain ⟨⟨c3_0, c3_1, c3_2, c3_3⟩, fz3⟩ := id hp3
      obtain ⟨⟨c4_0, c4_1, c4_2, c4_3⟩, fz4⟩ := id hp4
      go_wp2_with fail
      refine ret_turn2 hv3_4 hv3_5 ?_ rfl (by (repeat (first | exact Below.refl _ _ | (refine below_drewN ?_ _) | (refine Below.drew ?_) | (refine Below.setCell ?_ (by first | omega | (simp; try omega)) _) | (refine Below.alloc ?_ (by first | omega | (simp; try omega)) _) | (refine Below.trans ?_ (Below.mono (by assumption) (by first | omega | (simp; try omega)))))))
      simp [results, Try.results15, go_sem, *]

set_option maxHeartbeats 40000000 in
set_option maxRecDepth 20000 in
theorem c_spec_l02Parts {tw tx ty tz ax ay az : Nat} {Ct : V4} {Ca : V3} (ht : Fv4 tw tx ty tz Ct) (ha : Fv3 ax ay az Ca) (w : World) : Calls Try.prog 30 #[turn tw tx ty tz, vec ax ay az] w (RetTT (swingC Ct Ca) (twistC Ct Ca) w) := by
  go_enter Try.func30, Try.ntmps30
  go_upto_region 1 with fail
  refine wp_name (fun wr => HasF4 wr w.heap.size tw tx ty tz ∧ HasF3 wr (w.heap.size + 1) ax ay az ∧ HasF4 wr (w.heap.size + 2) 0 0 0 0 ∧ HasF4 wr (w.heap.size + 3) 0 0 0 0 ∧ Below w.heap.size w wr) ⟨⟨⟨by go_simp, by go_simp, by go_simp, by go_simp⟩, fun o => by go_simp⟩, ⟨⟨by go_simp, by go_simp, by go_simp⟩, fun o => by go_simp⟩, ⟨⟨by go_simp, by go_simp, by go_simp, by go_simp⟩, fun o => by go_simp⟩, ⟨⟨by go_simp, by go_simp, by go_simp, by go_simp⟩, fun o => by go_simp⟩, by (repeat (first | exact Below.refl _ _ | (refine below_drewN ?_ _) | (refine Below.drew ?_) | (refine Below.setCell ?_ (by first | omega | (simp; try omega)) _) | (refine Below.alloc ?_ (by first | omega | (simp; try omega)) _) | (refine Below.trans ?_ (Below.mono (by assumption) (by first | omega | (simp; try omega))))))⟩ ?_
  rintro W1 ⟨hp0, hp1, hp2, hp3, hbel⟩
  have LW1hp0 := hp0.lt; have LW1hp1 := hp1.lt; have LW1hp2 := hp2.lt; have LW1hp3 := hp3.lt; have SW1 := hbel.size
  refine wp_region_drawn [(8, isV (vec ax ay az)), (9, isV (vec ax ay az)), (10, isV (turn tw tx ty tz)), (11, isVec (axisC (Ct))), (12, isFlt .f32 (innerC (Ca) (axisC (Ct)))), (13, isVec (scaleC (Ca) (innerC (Ca) (axisC (Ct))))), (6, isOwn3 W1.heap.size)]
    (fun wr => HasF4 wr w.heap.size tw tx ty tz ∧ HasF3 wr (w.heap.size + 1) ax ay az ∧ HasF4 wr (w.heap.size + 2) 0 0 0 0 ∧ HasF4 wr (w.heap.size + 3) 0 0 0 0 ∧ Below W1.heap.size W1 wr)
    (by kernel_rfl) (by kernel_rfl) (by kernel_rfl) (by kernel_rfl) (Nat.le_of_ble_eq_true (by kernel_rfl)) (by kernel_rfl) ?_ (fun _ _ hb h => ⟨h.1.below hb, h.2.1.below hb, h.2.2.1.below hb, h.2.2.2.1.below hb, h.2.2.2.2.trans (hb.mono h.2.2.2.2.size)⟩) ⟨hp0, hp1, hp2, hp3, (Below.refl _ _).drew⟩ ?_ ?_
  · intro p hp
    simp only [List.mem_cons, List.not_mem_nil, or_false] at hp
    rcases hp with rfl | rfl | rfl | rfl | rfl | rfl | rfl <;> first | exact mono_isV _ | exact mono_isVec _ | exact mono_isTurn _ | exact mono_isFlt _ _ | exact mono_isOwn3 _ | exact mono_isOwn4 _
  · intro i o hi ho f w1 hI hdep
    simp only [List.map_cons, List.map_nil, mix, List.contains_cons, List.contains_nil, Nat.reduceBEq, Bool.or_true, Bool.or_false, Bool.false_eq_true, if_true, if_false, Nat.reduceAdd, Nat.zero_add]
    have hcase : i = 0 ∨ i = 1 ∨ i = 2 ∨ i = 3 ∨ i = 4 ∨ i = 5 ∨ i = 6 := by simp at hi; omega
    obtain ⟨⟨⟨c0_0, c0_1, c0_2, c0_3⟩, fz0⟩, ⟨⟨c1_0, c1_1, c1_2⟩, fz1⟩, ⟨⟨c2_0, c2_1, c2_2, c2_3⟩, fz2⟩, ⟨⟨c3_0, c3_1, c3_2, c3_3⟩, fz3⟩, hb1⟩ := hI
    have hsz := hb1.size
    rcases hcase with rfl | rfl | rfl | rfl | rfl | rfl | rfl
    · obtain rfl := Option.some.inj ho
      clear hdep ho hi
      generalize f 6 = v6 at *; generalize f 8 = v8 at *; generalize f 9 = v9 at *; generalize f 10 = v10 at *; generalize f 11 = v11 at *; generalize f 12 = v12 at *; generalize f 13 = v13 at *
      refine wpOp_step rfl (fun K hK => ?_)
      go_simp
      exact hK _ _ ⟨_, rfl, (fun p hp => by cases hp; rfl), Below.refl _ _⟩
    · obtain rfl := Option.some.inj ho
      clear hdep ho hi
      generalize f 6 = v6 at *; generalize f 8 = v8 at *; generalize f 9 = v9 at *; generalize f 10 = v10 at *; generalize f 11 = v11 at *; generalize f 12 = v12 at *; generalize f 13 = v13 at *
      refine wpOp_step rfl (fun K hK => ?_)
      go_simp
      exact hK _ _ ⟨_, rfl, (fun p hp => by cases hp; rfl), Below.refl _ _⟩
    · obtain rfl := Option.some.inj ho
      clear hdep ho hi
      generalize f 6 = v6 at *; generalize f 8 = v8 at *; generalize f 9 = v9 at *; generalize f 10 = v10 at *; generalize f 11 = v11 at *; generalize f 12 = v12 at *; generalize f 13 = v13 at *
      refine wpOp_step rfl (fun K hK => ?_)
      go_simp
      exact hK _ _ ⟨_, rfl, (fun p hp => by cases hp; rfl), Below.refl _ _⟩
    · obtain rfl := Option.some.inj ho
      have e2 : f 10 = (turn tw tx ty tz) := hdep ⟨2, .data⟩ (by simp) rfl
      clear hdep ho hi
      generalize f 6 = v6 at *; generalize f 8 = v8 at *; generalize f 9 = v9 at *; generalize f 10 = v10 at *; generalize f 11 = v11 at *; generalize f 12 = v12 at *; generalize f 13 = v13 at *
      subst e2
      refine wpOp_step rfl (fun K hK => ?_)
      go_simp
      refine (c_spec_l02Axis ht _).mono ?_
      rintro e w' ⟨⟨y0, y1, y2, rfl, hv⟩, hb⟩
      exact hK _ _ ⟨_, rfl, (fun p hp => by cases hp; exact ⟨_, _, _, rfl, hv⟩), hb⟩
    · obtain rfl := Option.some.inj ho
      have e1 : f 9 = (vec ax ay az) := hdep ⟨1, .data⟩ (by simp) rfl
      obtain ⟨x3, y3, z3, e3, hv3⟩ : isVec _ (f 11) w1 := hdep ⟨3, .data⟩ (by simp) rfl
      clear hdep ho hi
      generalize f 6 = v6 at *; generalize f 8 = v8 at *; generalize f 9 = v9 at *; generalize f 10 = v10 at *; generalize f 11 = v11 at *; generalize f 12 = v12 at *; generalize f 13 = v13 at *
      subst e1 e3
      refine wpOp_step rfl (fun K hK => ?_)
      go_simp
      refine (c_spec_l01Inner ha hv3 _).mono ?_
      rintro e w' ⟨⟨y0, rfl, hv⟩, hb⟩
      exact hK _ _ ⟨_, rfl, (fun p hp => by cases hp; exact ⟨_, rfl, hv⟩), hb⟩
    · obtain rfl := Option.some.inj ho
      have e0 : f 8 = (vec ax ay az) := hdep ⟨0, .data⟩ (by simp) rfl
      obtain ⟨r4, e4, hv4⟩ : isFlt _ _ (f 12) w1 := hdep ⟨4, .data⟩ (by simp) rfl
      clear hdep ho hi
      generalize f 6 = v6 at *; generalize f 8 = v8 at *; generalize f 9 = v9 at *; generalize f 10 = v10 at *; generalize f 11 = v11 at *; generalize f 12 = v12 at *; generalize f 13 = v13 at *
      subst e0 e4
      refine wpOp_step rfl (fun K hK => ?_)
      go_simp
      refine (c_spec_l01Scale ha hv4 _).mono ?_
      rintro e w' ⟨⟨y0, y1, y2, rfl, hv⟩, hb⟩
      exact hK _ _ ⟨_, rfl, (fun p hp => by cases hp; exact ⟨_, _, _, rfl, hv⟩), hb⟩
    · obtain rfl := Option.some.inj ho
      clear hdep ho hi
      generalize f 6 = v6 at *; generalize f 8 = v8 at *; generalize f 9 = v9 at *; generalize f 10 = v10 at *; generalize f 11 = v11 at *; generalize f 12 = v12 at *; generalize f 13 = v13 at *
      refine wpOp_step rfl (fun K hK => ?_)
      go_simp
      exact hK _ _ ⟨_, rfl, (fun p hp => by cases hp; exact ⟨_, rfl, own3_new _ _ hsz _ _ _ _⟩), (Below.refl _ _).alloc (Nat.le_refl _) _⟩
  · intro f w1 hI hF
    simp only [List.map_cons, List.map_nil, mix, List.contains_cons, List.contains_nil, Nat.reduceBEq, Bool.or_true, Bool.or_false, Bool.false_eq_true, if_true, if_false, Nat.reduceAdd, Nat.zero_add]
    obtain ⟨hp0, hp1, hp2, hp3, hb1⟩ := hI
    have hsz := hb1.size
    replace hbel := hbel.trans (hb1.mono hbel.size)
    obtain ⟨x1_13, y1_13, z1_13, e5, hv1_13⟩ : isVec _ (f 13) w1 := hF 5 (by simp)
    obtain ⟨b1_6, e6, hg1_6, ⟨q0, q1, q2, ho6⟩, hf6⟩ : isOwn3 _ (f 6) w1 := hF 6 (by simp)
    have hp4 : HasF3 w1 b1_6 q0 q1 q2 := ⟨ho6, hf6⟩
    clear ho6 hf6
    clear hF
    generalize f 6 = v6 at *; generalize f 8 = v8 at *; generalize f 9 = v9 at *; generalize f 10 = v10 at *; generalize f 11 = v11 at *; generalize f 12 = v12 at *; generalize f 13 = v13 at *
    subst e5 e6
    have Lw1hp0 := hp0.lt; have Lw1hp1 := hp1.lt; have Lw1hp2 := hp2.lt; have Lw1hp3 := hp3.lt; have Lw1hp4 := hp4.lt
    obtain ⟨⟨c0_0, c0_1, c0_2, c0_3⟩, fz0⟩ := id hp0
    obtain ⟨⟨c1_0, c1_1, c1_2⟩, fz1⟩ := id hp1
    obtain ⟨⟨c2_0, c2_1, c2_2, c2_3⟩, fz2⟩ := id hp2
    obtain ⟨⟨c3_0, c3_1, c3_2, c3_3⟩, fz3⟩ := id hp3
    obtain ⟨⟨c4_0, c4_1, c4_2⟩, fz4⟩ := id hp4
    change wpAny _ _ _ _ (0 + 1) _ _ _
    refine wpAny_all (rs := [7]) (by kernel_rfl) (by simp) ?_
    intro i hi
    obtain rfl : i = 7 := by simpa using hi
    clear hi
    refine wpOp_step rfl (fun K hK => ?_)
    go_simp
    refine hK _ _ (wpAny_done (by kernel_rfl) ?_ _)
    clear hK K
    go_upto_region 2 with fail
    refine wp_name (fun wr => HasF4 wr w.heap.size tw tx ty tz ∧ HasF3 wr (w.heap.size + 1) ax ay az ∧ HasF4 wr (w.heap.size + 2) 0 0 0 0 ∧ HasF4 wr (w.heap.size + 3) 0 0 0 0 ∧ HasF3 wr b1_6 x1_13 y1_13 z1_13 ∧ Below w.heap.size w wr) ⟨by (repeat (first | assumption | (refine HasF3.set ?_ _ _ (by first | omega | (simp; try omega))) | (refine HasF4.set ?_ _ _ (by first | omega | (simp; try omega))) | (refine HasF3.alloc ?_ _) | (refine HasF4.alloc ?_ _) | (refine HasF3.drewN ?_ _) | (refine HasF4.drewN ?_ _))), by (repeat (first | assumption | (refine HasF3.set ?_ _ _ (by first | omega | (simp; try omega))) | (refine HasF4.set ?_ _ _ (by first | omega | (simp; try omega))) | (refine HasF3.alloc ?_ _) | (refine HasF4.alloc ?_ _) | (refine HasF3.drewN ?_ _) | (refine HasF4.drewN ?_ _))), by (repeat (first | assumption | (refine HasF3.set ?_ _ _ (by first | omega | (simp; try omega))) | (refine HasF4.set ?_ _ _ (by first | omega | (simp; try omega))) | (refine HasF3.alloc ?_ _) | (refine HasF4.alloc ?_ _) | (refine HasF3.drewN ?_ _) | (refine HasF4.drewN ?_ _))), by (repeat (first | assumption | (refine HasF3.set ?_ _ _ (by first | omega | (simp; try omega))) | (refine HasF4.set ?_ _ _ (by first | omega | (simp; try omega))) | (refine HasF3.alloc ?_ _) | (refine HasF4.alloc ?_ _) | (refine HasF3.drewN ?_ _) | (refine HasF4.drewN ?_ _))), ⟨⟨by first | simp | go_simp, by first | simp | go_simp, by first | simp | go_simp⟩, fun o => by simp [*]⟩, by (repeat (first | exact Below.refl _ _ | (refine below_drewN ?_ _) | (refine Below.drew ?_) | (refine Below.setCell ?_ (by first | omega | (simp; try omega)) _) | (refine Below.alloc ?_ (by first | omega | (simp; try omega)) _) | (refine Below.trans ?_ (Below.mono (by assumption) (by first | omega | (simp; try omega))))))⟩ ?_
    clear hbel hb1 hsz hp0 hp1 hp2 hp3 hp4 c0_0 c0_1 c0_2 c0_3 c1_0 c1_1 c1_2 c2_0 c2_1 c2_2 c2_3 c3_0 c3_1 c3_2 c3_3 c4_0 c4_1 c4_2 fz0 fz1 fz2 fz3 fz4
    rintro W2n ⟨hp0, hp1, hp2, hp3, hp4, hbel⟩
    have LW2nhp0 := hp0.lt; have LW2nhp1 := hp1.lt; have LW2nhp2 := hp2.lt; have LW2nhp3 := hp3.lt; have LW2nhp4 := hp4.lt; have SW2n := hbel.size
    obtain ⟨⟨c0_0, c0_1, c0_2, c0_3⟩, fz0⟩ := id hp0
    obtain ⟨⟨c1_0, c1_1, c1_2⟩, fz1⟩ := id hp1
    obtain ⟨⟨c2_0, c2_1, c2_2, c2_3⟩, fz2⟩ := id hp2
    obtain ⟨⟨c3_0, c3_1, c3_2, c3_3⟩, fz3⟩ := id hp3
    obtain ⟨⟨c4_0, c4_1, c4_2⟩, fz4⟩ := id hp4
    go_wp2_with fail
    refine (c_spec_l02Mend (⟨ht.w, hv1_13.x, hv1_13.y, hv1_13.z⟩ : Fv4 tw x1_13 y1_13 z1_13 ⟨(Ct).w, (scaleC (Ca) (innerC (Ca) (axisC (Ct)))).x, (scaleC (Ca) (innerC (Ca) (axisC (Ct)))).y, (scaleC (Ca) (innerC (Ca) (axisC (Ct)))).z⟩) _).mono ?_
    rintro e W3c ⟨⟨ws3, xs3, ys3, zs3, rfl, hv3⟩, hb⟩
    clear c0_0 c0_1 c0_2 c0_3 c1_0 c1_1 c1_2 c2_0 c2_1 c2_2 c2_3 c3_0 c3_1 c3_2 c3_3 c4_0 c4_1 c4_2 fz0 fz1 fz2 fz3 fz4
    replace hp0 := hp0.below hb
    replace hp1 := hp1.below hb
    replace hp2 := hp2.below hb
    replace hp3 := hp3.below hb
    replace hp4 := hp4.below hb
    replace hbel := hbel.trans (hb.mono hbel.size)
    clear hb
    have LW3chp0 := hp0.lt; have LW3chp1 := hp1.lt; have LW3chp2 := hp2.lt; have LW3chp3 := hp3.lt; have LW3chp4 := hp4.lt; have SW3c := hbel.size
    obtain ⟨⟨c0_0, c0_1, c0_2, c0_3⟩, fz0⟩ := id hp0
    obtain ⟨⟨c1_0, c1_1, c1_2⟩, fz1⟩ := id hp1
    obtain ⟨⟨c2_0, c2_1, c2_2, c2_3⟩, fz2⟩ := id hp2
    obtain ⟨⟨c3_0, c3_1, c3_2, c3_3⟩, fz3⟩ := id hp3
    obtain ⟨⟨c4_0, c4_1, c4_2⟩, fz4⟩ := id hp4
    go_upto_region 3 with fail
    refine wp_name (fun wr => HasF4 wr w.heap.size tw tx ty tz ∧ HasF3 wr (w.heap.size + 1) ax ay az ∧ HasF4 wr (w.heap.size + 2) 0 0 0 0 ∧ HasF4 wr (w.heap.size + 3) 0 0 0 0 ∧ HasF3 wr b1_6 x1_13 y1_13 z1_13 ∧ HasF4 wr W3c.heap.size ws3 xs3 ys3 zs3 ∧ Below w.heap.size w wr) ⟨by (repeat (first | assumption | (refine HasF3.set ?_ _ _ (by first | omega | (simp; try omega))) | (refine HasF4.set ?_ _ _ (by first | omega | (simp; try omega))) | (refine HasF3.alloc ?_ _) | (refine HasF4.alloc ?_ _) | (refine HasF3.drewN ?_ _) | (refine HasF4.drewN ?_ _))), by (repeat (first | assumption | (refine HasF3.set ?_ _ _ (by first | omega | (simp; try omega))) | (refine HasF4.set ?_ _ _ (by first | omega | (simp; try omega))) | (refine HasF3.alloc ?_ _) | (refine HasF4.alloc ?_ _) | (refine HasF3.drewN ?_ _) | (refine HasF4.drewN ?_ _))), by (repeat (first | assumption | (refine HasF3.set ?_ _ _ (by first | omega | (simp; try omega))) | (refine HasF4.set ?_ _ _ (by first | omega | (simp; try omega))) | (refine HasF3.alloc ?_ _) | (refine HasF4.alloc ?_ _) | (refine HasF3.drewN ?_ _) | (refine HasF4.drewN ?_ _))), by (repeat (first | assumption | (refine HasF3.set ?_ _ _ (by first | omega | (simp; try omega))) | (refine HasF4.set ?_ _ _ (by first | omega | (simp; try omega))) | (refine HasF3.alloc ?_ _) | (refine HasF4.alloc ?_ _) | (refine HasF3.drewN ?_ _) | (refine HasF4.drewN ?_ _))), by (repeat (first | assumption | (refine HasF3.set ?_ _ _ (by first | omega | (simp; try omega))) | (refine HasF4.set ?_ _ _ (by first | omega | (simp; try omega))) | (refine HasF3.alloc ?_ _) | (refine HasF4.alloc ?_ _) | (refine HasF3.drewN ?_ _) | (refine HasF4.drewN ?_ _))), ⟨⟨by first | simp | go_simp, by first | simp | go_simp, by first | simp | go_simp, by first | simp | go_simp⟩, fun o => by simp [*]⟩, by (repeat (first | exact Below.refl _ _ | (refine below_drewN ?_ _) | (refine Below.drew ?_) | (refine Below.setCell ?_ (by first | omega | (simp; try omega)) _) | (refine Below.alloc ?_ (by first | omega | (simp; try omega)) _) | (refine Below.trans ?_ (Below.mono (by assumption) (by first | omega | (simp; try omega))))))⟩ ?_
    clear hbel hp0 hp1 hp2 hp3 hp4 c0_0 c0_1 c0_2 c0_3 c1_0 c1_1 c1_2 c2_0 c2_1 c2_2 c2_3 c3_0 c3_1 c3_2 c3_3 c4_0 c4_1 c4_2 fz0 fz1 fz2 fz3 fz4
    rintro W4n ⟨hp0, hp1, hp2, hp3, hp4, hp5, hbel⟩
    have LW4nhp0 := hp0.lt; have LW4nhp1 := hp1.lt; have LW4nhp2 := hp2.lt; have LW4nhp3 := hp3.lt; have LW4nhp4 := hp4.lt; have LW4nhp5 := hp5.lt; have SW4n := hbel.size
    refine wp_region_put (fun g => g = (w.heap.size + 2) ∨ g = (w.heap.size + 3)) [4, 5]
      [FD.val 24 (isV (turn tw tx ty tz)), FD.val 25 (isV (turn ws3 xs3 ys3 zs3)), FD.val 26 (isTurn (invC (mendC ((⟨(Ct).w, (scaleC (Ca) (innerC (Ca) (axisC (Ct)))).x, (scaleC (Ca) (innerC (Ca) (axisC (Ct)))).y, (scaleC (Ca) (innerC (Ca) (axisC (Ct)))).z⟩ : V4))))), FD.val 27 (isTurn (mulC (Ct) (invC (mendC ((⟨(Ct).w, (scaleC (Ca) (innerC (Ca) (axisC (Ct)))).x, (scaleC (Ca) (innerC (Ca) (axisC (Ct)))).y, (scaleC (Ca) (innerC (Ca) (axisC (Ct)))).z⟩ : V4)))))), FD.val 28 (isV (turn ws3 xs3 ys3 zs3)), FD.put 4 (isPut4 (mulC (Ct) (invC (mendC ((⟨(Ct).w, (scaleC (Ca) (innerC (Ca) (axisC (Ct)))).x, (scaleC (Ca) (innerC (Ca) (axisC (Ct)))).y, (scaleC (Ca) (innerC (Ca) (axisC (Ct)))).z⟩ : V4)))))), FD.put 5 (isPut4 (mendC ((⟨(Ct).w, (scaleC (Ca) (innerC (Ca) (axisC (Ct)))).x, (scaleC (Ca) (innerC (Ca) (axisC (Ct)))).y, (scaleC (Ca) (innerC (Ca) (axisC (Ct)))).z⟩ : V4))))] [24, 25, 26, 27, 28] rfl
      (fun wr => HasF4 wr w.heap.size tw tx ty tz ∧ HasF3 wr (w.heap.size + 1) ax ay az ∧ HasF3 wr b1_6 x1_13 y1_13 z1_13 ∧ HasF4 wr W3c.heap.size ws3 xs3 ys3 zs3 ∧ Any4 wr (w.heap.size + 2) ∧ Any4 wr (w.heap.size + 3) ∧ Below w.heap.size w wr ∧ W4n.heap.size ≤ wr.heap.size)
      (by kernel_rfl) (by kernel_rfl) (by kernel_rfl) ?_ ?_ ?_ ?_ ?_ ?_ ?_
    · intro p hp
      simp only [List.mem_cons, List.not_mem_nil, or_false] at hp
      rcases hp with rfl | rfl | rfl | rfl | rfl | rfl | rfl <;> first | exact good_isV _ _ _ | exact good_isVec _ _ _ | exact good_isTurn _ _ _ | exact good_isFlt _ _ _ _ | exact good_isOwn3 _ _ _ | exact good_isOwn4 _ _ _ | exact good_isTup2 _ _ _ _ | exact good_put3 _ _ _ | exact good_put4 _ _ _
    · rintro wa wb hb ⟨i0, i1, i2, i3, i4, i5, i6, i7⟩
      exact ⟨i0.below hb, i1.below hb, i2.below hb, i3.below hb, i4.below hb, i5.below hb, i6.trans (hb.mono i6.size), Nat.le_trans i7 hb.size⟩
    · rintro g wa wb hg hi ⟨i0, i1, i2, i3, i4, i5, i6, i7⟩
      change g = (w.heap.size + 2) ∨ g = (w.heap.size + 3) at hg
      exact ⟨i0.into hi (by omega), i1.into hi (by omega), i2.into hi (by omega), i3.into hi (by omega), i4.into hi, i5.into hi, below_into i6 hi (by omega), (by rw [hi.size]; exact i7)⟩
    · exact ⟨hp0.below ((Below.refl _ _).drew), hp1.below ((Below.refl _ _).drew), hp4.below ((Below.refl _ _).drew), hp5.below ((Below.refl _ _).drew), ⟨_, _, _, _, hp2.below ((Below.refl _ _).drew)⟩, ⟨_, _, _, _, hp3.below ((Below.refl _ _).drew)⟩, hbel.drew, Nat.le_refl _⟩
    · refine ⟨?_, ?_, ?_⟩
      · intro d b hd hb
        simp only [List.contains_cons, List.contains_nil, Bool.or_false, Bool.or_eq_true, beq_iff_eq] at hd
        rcases hd with rfl | rfl <;> cases hb <;> simp
      · intro d b hd hb
        simp only [List.contains_cons, List.contains_nil, Bool.or_false, Bool.or_eq_true, beq_iff_eq] at hd
        rcases hd with rfl | rfl <;> cases hb <;> (simp; omega)
      · intro d e b c hd he hne hb hc
        simp only [List.contains_cons, List.contains_nil, Bool.or_false, Bool.or_eq_true, beq_iff_eq] at hd he
        rcases hd with rfl | rfl <;> rcases he with rfl | rfl <;> first | exact absurd rfl hne | (cases hb; cases hc; simp)
    · intro i o hi ho f w1 hbase hI hS hdep
      simp only [mix, List.contains_cons, List.contains_nil, Nat.reduceBEq, Bool.or_true, Bool.or_false, Bool.false_eq_true, if_true, if_false, Nat.reduceAdd, Nat.zero_add]
      have hcase : i = 0 ∨ i = 1 ∨ i = 2 ∨ i = 3 ∨ i = 4 ∨ i = 5 ∨ i = 6 := by simp at hi; omega
      obtain ⟨⟨⟨c0_0, c0_1, c0_2, c0_3⟩, fz0⟩, ⟨⟨c1_0, c1_1, c1_2⟩, fz1⟩, ⟨⟨c2_0, c2_1, c2_2⟩, fz2⟩, ⟨⟨c3_0, c3_1, c3_2, c3_3⟩, fz3⟩, ⟨q0_0, q0_1, q0_2, q0_3, ha0⟩, ⟨q1_0, q1_1, q1_2, q1_3, ha1⟩, hbw, hsz⟩ := hI
      clear hbase hS
      rcases hcase with rfl | rfl | rfl | rfl | rfl | rfl | rfl
      · obtain rfl := Option.some.inj ho
        clear hdep ho hi
        generalize f 24 = v24 at *; generalize f 25 = v25 at *; generalize f 26 = v26 at *; generalize f 27 = v27 at *; generalize f 28 = v28 at *
        refine wpOp_step rfl (fun K hK => ?_)
        go_simp
        exact hK _ _ ⟨_, rfl, rfl, Below.refl _ _, (fun hc => absurd hc (by decide))⟩
      · obtain rfl := Option.some.inj ho
        clear hdep ho hi
        generalize f 24 = v24 at *; generalize f 25 = v25 at *; generalize f 26 = v26 at *; generalize f 27 = v27 at *; generalize f 28 = v28 at *
        refine wpOp_step rfl (fun K hK => ?_)
        go_simp
        exact hK _ _ ⟨_, rfl, rfl, Below.refl _ _, (fun hc => absurd hc (by decide))⟩
      · obtain rfl := Option.some.inj ho
        have e1 : f 25 = (turn ws3 xs3 ys3 zs3) := hdep ⟨1, .data⟩ (by simp) rfl
        clear hdep ho hi
        generalize f 24 = v24 at *; generalize f 25 = v25 at *; generalize f 26 = v26 at *; generalize f 27 = v27 at *; generalize f 28 = v28 at *
        subst e1
        refine wpOp_step rfl (fun K hK => ?_)
        go_simp
        refine (c_spec_l02Inverse hv3 _).mono ?_
        rintro e w' ⟨⟨y0, y1, y2, y3, rfl, hv⟩, hb⟩
        exact hK _ _ ⟨_, rfl, ⟨_, _, _, _, rfl, hv⟩, hb, (fun hc => absurd hc (by decide))⟩
      · obtain rfl := Option.some.inj ho
        have e0 : f 24 = (turn tw tx ty tz) := hdep ⟨0, .data⟩ (by simp) rfl
        obtain ⟨w2, x2, y2, z2, e2, hv2⟩ : isTurn _ (f 26) w1 := hdep ⟨2, .data⟩ (by simp) rfl
        clear hdep ho hi
        generalize f 24 = v24 at *; generalize f 25 = v25 at *; generalize f 26 = v26 at *; generalize f 27 = v27 at *; generalize f 28 = v28 at *
        subst e0 e2
        refine wpOp_step rfl (fun K hK => ?_)
        go_simp
        refine (c_spec_l02Mul ht hv2 _).mono ?_
        rintro e w' ⟨⟨y0, y1, y2, y3, rfl, hv⟩, hb⟩
        exact hK _ _ ⟨_, rfl, ⟨_, _, _, _, rfl, hv⟩, hb, (fun hc => absurd hc (by decide))⟩
      · obtain rfl := Option.some.inj ho
        clear hdep ho hi
        generalize f 24 = v24 at *; generalize f 25 = v25 at *; generalize f 26 = v26 at *; generalize f 27 = v27 at *; generalize f 28 = v28 at *
        refine wpOp_step rfl (fun K hK => ?_)
        go_simp
        exact hK _ _ ⟨_, rfl, rfl, Below.refl _ _, (fun hc => absurd hc (by decide))⟩
      · obtain rfl := Option.some.inj ho
        obtain ⟨w3, x3, y3, z3, e3, hv3⟩ : isTurn _ (f 27) w1 := hdep ⟨3, .data⟩ (by simp) rfl
        clear hdep ho hi
        generalize f 24 = v24 at *; generalize f 25 = v25 at *; generalize f 26 = v26 at *; generalize f 27 = v27 at *; generalize f 28 = v28 at *
        subst e3
        have hinto := into_put4 w3 x3 y3 z3 ha0
        have hhas := has_put4 w3 x3 y3 z3 ha0
        obtain ⟨⟨m0, m1, m2, m3⟩, mf⟩ := id ha0
        refine wpOp_step rfl (fun K hK => ?_)
        go_simp
        exact hK _ _ ⟨rfl, _, rfl, ⟨_, _, _, _, hhas, hv3⟩, hinto⟩
      · obtain rfl := Option.some.inj ho
        have e4 : f 28 = (turn ws3 xs3 ys3 zs3) := hdep ⟨4, .data⟩ (by simp) rfl
        clear hdep ho hi
        generalize f 24 = v24 at *; generalize f 25 = v25 at *; generalize f 26 = v26 at *; generalize f 27 = v27 at *; generalize f 28 = v28 at *
        subst e4
        have hinto := into_put4 ws3 xs3 ys3 zs3 ha1
        have hhas := has_put4 ws3 xs3 ys3 zs3 ha1
        obtain ⟨⟨m0, m1, m2, m3⟩, mf⟩ := id ha1
        refine wpOp_step rfl (fun K hK => ?_)
        go_simp
        exact hK _ _ ⟨rfl, _, rfl, ⟨_, _, _, _, hhas, hv3⟩, hinto⟩
    · intro f w1 hbase hI hS hF
      simp only [mix, List.contains_cons, List.contains_nil, Nat.reduceBEq, Bool.or_true, Bool.or_false, Bool.false_eq_true, if_true, if_false, Nat.reduceAdd, Nat.zero_add]
      obtain ⟨hp0, hp1, hp4, hp5, _, _, hbw, hsz⟩ := hI
      clear hbel
      have hbel := hbw
      clear hbw
      have eb4 : f 4 = .pointer (some ⟨(w.heap.size + 2), 0, none⟩) := hbase 4 (by decide)
      obtain ⟨w5_4, x5_4, y5_4, z5_4, hp2, hv5_4⟩ : isPut4 (mulC (Ct) (invC (mendC ((⟨(Ct).w, (scaleC (Ca) (innerC (Ca) (axisC (Ct)))).x, (scaleC (Ca) (innerC (Ca) (axisC (Ct)))).y, (scaleC (Ca) (innerC (Ca) (axisC (Ct)))).z⟩ : V4))))) (w.heap.size + 2) w1 := put_at eb4 (hF 5 (by simp))
      have eb5 : f 5 = .pointer (some ⟨(w.heap.size + 3), 0, none⟩) := hbase 5 (by decide)
      obtain ⟨w5_5, x5_5, y5_5, z5_5, hp3, hv5_5⟩ : isPut4 (mendC ((⟨(Ct).w, (scaleC (Ca) (innerC (Ca) (axisC (Ct)))).x, (scaleC (Ca) (innerC (Ca) (axisC (Ct)))).y, (scaleC (Ca) (innerC (Ca) (axisC (Ct)))).z⟩ : V4))) (w.heap.size + 3) w1 := put_at eb5 (hF 6 (by simp))
      clear eb4 eb5
      clear hF hS hbase
      generalize f 24 = v24 at *; generalize f 25 = v25 at *; generalize f 26 = v26 at *; generalize f 27 = v27 at *; generalize f 28 = v28 at *
      have Lw5hp0 := hp0.lt; have Lw5hp1 := hp1.lt; have Lw5hp2 := hp2.lt; have Lw5hp3 := hp3.lt; have Lw5hp4 := hp4.lt; have Lw5hp5 := hp5.lt
      obtain ⟨⟨c0_0, c0_1, c0_2, c0_3⟩, fz0⟩ := id hp0
      obtain ⟨⟨c1_0, c1_1, c1_2⟩, fz1⟩ := id hp1
      obtain ⟨⟨c2_0, c2_1, c2_2, c2_3⟩, fz2⟩ := id hp2
      obtain ⟨⟨c3_0, c3_1, c3_2, c3_3⟩, fz3⟩ := id hp3
      obtain ⟨⟨c4_0, c4_1, c4_2⟩, fz4⟩ := id hp4
      obtain ⟨⟨c5_0, c5_1, c5_2, c5_3⟩, fz5⟩ := id hp5
      go_wp2_with fail
      refine ret_turn2 hv5_4 hv5_5 ?_ rfl (by (repeat (first | exact Below.refl _ _ | (refine below_drewN ?_ _) | (refine Below.drew ?_) | (refine Below.setCell ?_ (by first | omega | (simp; try omega)) _) | (refine Below.alloc ?_ (by first | omega | (simp; try omega)) _) | (refine Below.trans ?_ (Below.mono (by assumption) (by first | omega | (simp; try omega)))))))
      simp [results, Try.results30, go_sem, *]

end Go.Proofs.Ytpfijbgkhekjfaa
