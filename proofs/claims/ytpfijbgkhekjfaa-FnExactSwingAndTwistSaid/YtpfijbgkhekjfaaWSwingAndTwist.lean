/-
  The walk of the statement SwingAndTwist. No condition.
-/
import Derived.Test.YtpfijbgkhekjfaaVx
set_option linter.unusedVariables false
namespace Go.Proofs.Ytpfijbgkhekjfaa
open Go.RowKit Go.Proofs.Ytpfijbgkhekjfaa.Fl

set_option maxHeartbeats 40000000 in
set_option maxRecDepth 20000 in
theorem c_spec_SwingAndTwist {tw tx ty tz ax ay az : Nat} {Ct : V4} {Ca : V3} (ht : Fv4 tw tx ty tz Ct) (ha : Fv3 ax ay az Ca) (w : World) : Calls Try.prog 13 #[turn tw tx ty tz, vec ax ay az] w (RetTT (swingC Ct Ca) (twistC Ct Ca) w) := by
  go_enter Try.func13, Try.ntmps13
  go_upto_region 1 with fail
  refine wp_name (fun wr => HasF4 wr w.heap.size tw tx ty tz ∧ HasF3 wr (w.heap.size + 1) ax ay az ∧ HasF4 wr (w.heap.size + 2) 0 0 0 0 ∧ HasF4 wr (w.heap.size + 3) 0 0 0 0 ∧ Below w.heap.size w wr) ⟨⟨⟨by go_simp, by go_simp, by go_simp, by go_simp⟩, fun o => by go_simp⟩, ⟨⟨by go_simp, by go_simp, by go_simp⟩, fun o => by go_simp⟩, ⟨⟨by go_simp, by go_simp, by go_simp, by go_simp⟩, fun o => by go_simp⟩, ⟨⟨by go_simp, by go_simp, by go_simp, by go_simp⟩, fun o => by go_simp⟩, by (repeat (first | exact Below.refl _ _ | (refine below_drewN ?_ _) | (refine Below.drew ?_) | (refine Below.setCell ?_ (by first | omega | (simp; try omega)) _) | (refine Below.alloc ?_ (by first | omega | (simp; try omega)) _) | (refine Below.trans ?_ (Below.mono (by assumption) (by first | omega | (simp; try omega))))))⟩ ?_
  rintro W1 ⟨hp0, hp1, hp2, hp3, hbel⟩
  have LW1hp0 := hp0.lt; have LW1hp1 := hp1.lt; have LW1hp2 := hp2.lt; have LW1hp3 := hp3.lt; have SW1 := hbel.size
  obtain ⟨⟨c0_0, c0_1, c0_2, c0_3⟩, fz0⟩ := id hp0
  obtain ⟨⟨c1_0, c1_1, c1_2⟩, fz1⟩ := id hp1
  obtain ⟨⟨c2_0, c2_1, c2_2, c2_3⟩, fz2⟩ := id hp2
  obtain ⟨⟨c3_0, c3_1, c3_2, c3_3⟩, fz3⟩ := id hp3
  go_wp2_with fail
  refine (c_spec_l02Parts ht ha _).mono ?_
  rintro e W1c ⟨⟨ws1, xs1, ys1, zs1, wt1, xt1, yt1, zt1, rfl, hS1, hT1⟩, hb⟩
  clear c0_0 c0_1 c0_2 c0_3 c1_0 c1_1 c1_2 c2_0 c2_1 c2_2 c2_3 c3_0 c3_1 c3_2 c3_3 fz0 fz1 fz2 fz3
  replace hp0 := hp0.below hb
  replace hp1 := hp1.below hb
  replace hp2 := hp2.below hb
  replace hp3 := hp3.below hb
  replace hbel := hbel.trans (hb.mono hbel.size)
  clear hb
  have LW1chp0 := hp0.lt; have LW1chp1 := hp1.lt; have LW1chp2 := hp2.lt; have LW1chp3 := hp3.lt; have SW1c := hbel.size
  obtain ⟨⟨c0_0, c0_1, c0_2, c0_3⟩, fz0⟩ := id hp0
  obtain ⟨⟨c1_0, c1_1, c1_2⟩, fz1⟩ := id hp1
  obtain ⟨⟨c2_0, c2_1, c2_2, c2_3⟩, fz2⟩ := id hp2
  obtain ⟨⟨c3_0, c3_1, c3_2, c3_3⟩, fz3⟩ := id hp3
  go_wp2_with fail
  have j1 := into_put4 ws1 xs1 ys1 zs1 hp2
  have k1 := has_put4 ws1 xs1 ys1 zs1 hp2
  have k3 := hp3.into j1 (by omega)
  have j2 := into_put4 wt1 xt1 yt1 zt1 k3
  have k2 := k1.into j2 (by omega)
  have k4 := has_put4 wt1 xt1 yt1 zt1 k3
  obtain ⟨⟨l0, l1, l2, l3⟩, _⟩ := k2
  obtain ⟨⟨l4, l5, l6, l7⟩, _⟩ := k4
  clear k1 k3
  refine ret_turn2 hS1 hT1 ?_ rfl (below_into (below_into hbel j1 (by omega)) j2 (by omega))
  clear j1 j2
  simp only [results, Try.results13]
  simp [go_sem, l0, l1, l2, l3, l4, l5, l6, l7]

set_option maxHeartbeats 40000000 in
set_option maxRecDepth 20000 in
theorem core_SwingAndTwist {tw tx ty tz ax ay az : Nat} {Ct : V4} {Ca : V3} (ht : Fv4 tw tx ty tz Ct) (ha : Fv3 ax ay az Ca) (w : World) : Calls Try.prog 4 #[turn tw tx ty tz, vec ax ay az] w (RetB true w) := by
  go_enter Try.func4, Try.ntmps4
  go_upto_region 1 with fail
  refine wp_name (fun wr => HasF4 wr w.heap.size tw tx ty tz ∧ HasF3 wr (w.heap.size + 1) ax ay az ∧ Below w.heap.size w wr) ⟨⟨⟨by go_simp, by go_simp, by go_simp, by go_simp⟩, fun o => by go_simp⟩, ⟨⟨by go_simp, by go_simp, by go_simp⟩, fun o => by go_simp⟩, by (repeat (first | exact Below.refl _ _ | (refine below_drewN ?_ _) | (refine Below.drew ?_) | (refine Below.setCell ?_ (by first | omega | (simp; try omega)) _) | (refine Below.alloc ?_ (by first | omega | (simp; try omega)) _) | (refine Below.trans ?_ (Below.mono (by assumption) (by first | omega | (simp; try omega))))))⟩ ?_
  rintro W1 ⟨hp0, hp1, hbel⟩
  have LW1hp0 := hp0.lt; have LW1hp1 := hp1.lt; have SW1 := hbel.size
  refine wp_region_put (fun g => W1.heap.size ≤ g) [5, 6]
    [FD.val 10 (isV (turn tw tx ty tz)), FD.val 11 (isTurn (Ct)), FD.val 12 (isV (vec ax ay az)), FD.val 13 (isVec (Ca)), FD.val 14 (isTup2 (swingC (Ct) (Ca)) (twistC (Ct) (Ca))), FD.val 9 (isTup2 (swingC (Ct) (Ca)) (twistC (Ct) (Ca))), FD.val 15 (isTurn (swingC (Ct) (Ca))), FD.val 16 (isTurn (twistC (Ct) (Ca))), FD.val 5 (isOwn4 W1.heap.size), FD.val 6 (isOwn4 W1.heap.size), FD.put 5 (isPut4 (swingC (Ct) (Ca))), FD.put 6 (isPut4 (twistC (Ct) (Ca)))] [10, 11, 12, 13, 14, 9, 15, 16, 5, 6] rfl
    (fun wr => HasF4 wr w.heap.size tw tx ty tz ∧ HasF3 wr (w.heap.size + 1) ax ay az ∧ Below w.heap.size w wr ∧ W1.heap.size ≤ wr.heap.size)
    (by kernel_rfl) (by kernel_rfl) (by kernel_rfl) ?_ ?_ ?_ ?_ ?_ ?_ ?_
  · intro p hp
    simp only [List.mem_cons, List.not_mem_nil, or_false] at hp
    rcases hp with rfl | rfl | rfl | rfl | rfl | rfl | rfl | rfl | rfl | rfl | rfl | rfl <;> first | exact good_isV _ _ _ | exact good_isVec _ _ _ | exact good_isTurn _ _ _ | exact good_isFlt _ _ _ _ | exact good_isOwn3 _ _ _ | exact good_isOwn4 _ _ _ | exact good_isTup2 _ _ _ _ | exact good_put3 _ _ _ | exact good_put4 _ _ _
  · rintro wa wb hb ⟨i0, i1, i2, i3⟩
    exact ⟨i0.below hb, i1.below hb, i2.trans (hb.mono i2.size), Nat.le_trans i3 hb.size⟩
  · rintro g wa wb hg hi ⟨i0, i1, i2, i3⟩
    change W1.heap.size ≤ g at hg
    exact ⟨i0.into hi (by omega), i1.into hi (by omega), below_into i2 hi (by omega), (by rw [hi.size]; exact i3)⟩
  · exact ⟨hp0.below ((Below.refl _ _).drew), hp1.below ((Below.refl _ _).drew), hbel.drew, Nat.le_refl _⟩
  · exact sepB_start (by kernel_rfl)
  · intro i o hi ho f w1 hbase hI hS hdep
    simp only [mix, List.contains_cons, List.contains_nil, Nat.reduceBEq, Bool.or_true, Bool.or_false, Bool.false_eq_true, if_true, if_false, Nat.reduceAdd, Nat.zero_add]
    have hcase : i = 0 ∨ i = 1 ∨ i = 2 ∨ i = 3 ∨ i = 4 ∨ i = 5 ∨ i = 6 ∨ i = 7 ∨ i = 8 ∨ i = 9 ∨ i = 10 ∨ i = 11 := by simp at hi; omega
    obtain ⟨⟨⟨c0_0, c0_1, c0_2, c0_3⟩, fz0⟩, ⟨⟨c1_0, c1_1, c1_2⟩, fz1⟩, hbw, hsz⟩ := hI
    clear hbase hS
    rcases hcase with rfl | rfl | rfl | rfl | rfl | rfl | rfl | rfl | rfl | rfl | rfl | rfl
    · obtain rfl := Option.some.inj ho
      clear hdep ho hi
      generalize f 5 = v5 at *; generalize f 6 = v6 at *; generalize f 9 = v9 at *; generalize f 10 = v10 at *; generalize f 11 = v11 at *; generalize f 12 = v12 at *; generalize f 13 = v13 at *; generalize f 14 = v14 at *; generalize f 15 = v15 at *; generalize f 16 = v16 at *
      refine wpOp_step rfl (fun K hK => ?_)
      go_simp
      exact hK _ _ ⟨_, rfl, rfl, Below.refl _ _, (fun hc => absurd hc (by decide))⟩
    · obtain rfl := Option.some.inj ho
      have e0 : f 10 = (turn tw tx ty tz) := hdep ⟨0, .data⟩ (by simp) rfl
      clear hdep ho hi
      generalize f 5 = v5 at *; generalize f 6 = v6 at *; generalize f 9 = v9 at *; generalize f 10 = v10 at *; generalize f 11 = v11 at *; generalize f 12 = v12 at *; generalize f 13 = v13 at *; generalize f 14 = v14 at *; generalize f 15 = v15 at *; generalize f 16 = v16 at *
      subst e0
      refine wpOp_step rfl (fun K hK => ?_)
      go_simp
      refine (toTurn_any ht _).mono ?_
      rintro e w' ⟨⟨y0, y1, y2, y3, rfl, hv⟩, hb⟩
      exact hK _ _ ⟨_, rfl, ⟨_, _, _, _, rfl, hv⟩, hb, (fun hc => absurd hc (by decide))⟩
    · obtain rfl := Option.some.inj ho
      clear hdep ho hi
      generalize f 5 = v5 at *; generalize f 6 = v6 at *; generalize f 9 = v9 at *; generalize f 10 = v10 at *; generalize f 11 = v11 at *; generalize f 12 = v12 at *; generalize f 13 = v13 at *; generalize f 14 = v14 at *; generalize f 15 = v15 at *; generalize f 16 = v16 at *
      refine wpOp_step rfl (fun K hK => ?_)
      go_simp
      exact hK _ _ ⟨_, rfl, rfl, Below.refl _ _, (fun hc => absurd hc (by decide))⟩
    · obtain rfl := Option.some.inj ho
      have e2 : f 12 = (vec ax ay az) := hdep ⟨2, .data⟩ (by simp) rfl
      clear hdep ho hi
      generalize f 5 = v5 at *; generalize f 6 = v6 at *; generalize f 9 = v9 at *; generalize f 10 = v10 at *; generalize f 11 = v11 at *; generalize f 12 = v12 at *; generalize f 13 = v13 at *; generalize f 14 = v14 at *; generalize f 15 = v15 at *; generalize f 16 = v16 at *
      subst e2
      refine wpOp_step rfl (fun K hK => ?_)
      go_simp
      refine (toVector_any ha _).mono ?_
      rintro e w' ⟨⟨y0, y1, y2, rfl, hv⟩, hb⟩
      exact hK _ _ ⟨_, rfl, ⟨_, _, _, rfl, hv⟩, hb, (fun hc => absurd hc (by decide))⟩
    · obtain rfl := Option.some.inj ho
      obtain ⟨wv1, xv1, yv1, zv1, e1, hv1⟩ : isTurn _ (f 11) w1 := hdep ⟨1, .data⟩ (by simp) rfl
      obtain ⟨xv3, yv3, zv3, e3, hv3⟩ : isVec _ (f 13) w1 := hdep ⟨3, .data⟩ (by simp) rfl
      clear hdep ho hi
      generalize f 5 = v5 at *; generalize f 6 = v6 at *; generalize f 9 = v9 at *; generalize f 10 = v10 at *; generalize f 11 = v11 at *; generalize f 12 = v12 at *; generalize f 13 = v13 at *; generalize f 14 = v14 at *; generalize f 15 = v15 at *; generalize f 16 = v16 at *
      subst e1 e3
      refine wpOp_step rfl (fun K hK => ?_)
      go_simp
      refine (c_spec_SwingAndTwist hv1 hv3 _).mono ?_
      rintro e w' ⟨⟨_, _, _, _, _, _, _, _, rfl, hv, hv2⟩, hb⟩
      exact hK _ _ ⟨_, rfl, ⟨_, _, _, _, _, _, _, _, rfl, hv, hv2⟩, hb, (fun hc => absurd hc (by decide))⟩
    · obtain rfl := Option.some.inj ho
      obtain ⟨ta, tb, tc, td, ua, ub, uc, ud, e4, hS2, hT2⟩ : isTup2 _ _ (f 14) w1 := hdep ⟨4, .data⟩ (by simp) rfl
      clear hdep ho hi
      generalize f 5 = v5 at *; generalize f 6 = v6 at *; generalize f 9 = v9 at *; generalize f 10 = v10 at *; generalize f 11 = v11 at *; generalize f 12 = v12 at *; generalize f 13 = v13 at *; generalize f 14 = v14 at *; generalize f 15 = v15 at *; generalize f 16 = v16 at *
      subst e4
      refine wpOp_step rfl (fun K hK => ?_)
      go_simp
      exact hK _ _ ⟨_, rfl, ⟨_, _, _, _, _, _, _, _, rfl, hS2, hT2⟩, Below.refl _ _, (fun hc => absurd hc (by decide))⟩
    · obtain rfl := Option.some.inj ho
      obtain ⟨ta, tb, tc, td, ua, ub, uc, ud, e5, hS2, hT2⟩ : isTup2 _ _ (f 9) w1 := hdep ⟨5, .data⟩ (by simp) rfl
      clear hdep ho hi
      generalize f 5 = v5 at *; generalize f 6 = v6 at *; generalize f 9 = v9 at *; generalize f 10 = v10 at *; generalize f 11 = v11 at *; generalize f 12 = v12 at *; generalize f 13 = v13 at *; generalize f 14 = v14 at *; generalize f 15 = v15 at *; generalize f 16 = v16 at *
      subst e5
      refine wpOp_step rfl (fun K hK => ?_)
      go_simp
      exact hK _ _ ⟨_, rfl, ⟨_, _, _, _, rfl, hS2⟩, Below.refl _ _, (fun hc => absurd hc (by decide))⟩
    · obtain rfl := Option.some.inj ho
      obtain ⟨ta, tb, tc, td, ua, ub, uc, ud, e5, hS2, hT2⟩ : isTup2 _ _ (f 9) w1 := hdep ⟨5, .data⟩ (by simp) rfl
      clear hdep ho hi
      generalize f 5 = v5 at *; generalize f 6 = v6 at *; generalize f 9 = v9 at *; generalize f 10 = v10 at *; generalize f 11 = v11 at *; generalize f 12 = v12 at *; generalize f 13 = v13 at *; generalize f 14 = v14 at *; generalize f 15 = v15 at *; generalize f 16 = v16 at *
      subst e5
      refine wpOp_step rfl (fun K hK => ?_)
      go_simp
      exact hK _ _ ⟨_, rfl, ⟨_, _, _, _, rfl, hT2⟩, Below.refl _ _, (fun hc => absurd hc (by decide))⟩
    · obtain rfl := Option.some.inj ho
      clear hdep ho hi
      generalize f 5 = v5 at *; generalize f 6 = v6 at *; generalize f 9 = v9 at *; generalize f 10 = v10 at *; generalize f 11 = v11 at *; generalize f 12 = v12 at *; generalize f 13 = v13 at *; generalize f 14 = v14 at *; generalize f 15 = v15 at *; generalize f 16 = v16 at *
      refine wpOp_step rfl (fun K hK => ?_)
      go_simp
      exact hK _ _ ⟨_, rfl, ⟨_, rfl, own4_new _ _ hsz _ _ _ _ _⟩, (Below.refl _ _).alloc (Nat.le_refl _) _, fun _ p hp => by cases hp; exact ⟨hsz, Nat.le_refl _, by simp⟩⟩
    · obtain rfl := Option.some.inj ho
      clear hdep ho hi
      generalize f 5 = v5 at *; generalize f 6 = v6 at *; generalize f 9 = v9 at *; generalize f 10 = v10 at *; generalize f 11 = v11 at *; generalize f 12 = v12 at *; generalize f 13 = v13 at *; generalize f 14 = v14 at *; generalize f 15 = v15 at *; generalize f 16 = v16 at *
      refine wpOp_step rfl (fun K hK => ?_)
      go_simp
      exact hK _ _ ⟨_, rfl, ⟨_, rfl, own4_new _ _ hsz _ _ _ _ _⟩, (Below.refl _ _).alloc (Nat.le_refl _) _, fun _ p hp => by cases hp; exact ⟨hsz, Nat.le_refl _, by simp⟩⟩
    · obtain rfl := Option.some.inj ho
      obtain ⟨g8, e8, hg8, ⟨q0, q1, q2, q3, ho8⟩, hf8⟩ : isOwn4 _ (f 5) w1 := hdep ⟨8, .data⟩ (by simp) rfl
      have hown : HasF4 w1 g8 q0 q1 q2 q3 := ⟨ho8, hf8⟩
      have hlt := hown.lt
      clear ho8 hf8
      obtain ⟨wv6, xv6, yv6, zv6, e6, hv6⟩ : isTurn _ (f 15) w1 := hdep ⟨6, .data⟩ (by simp) rfl
      clear hdep ho hi
      generalize f 5 = v5 at *; generalize f 6 = v6 at *; generalize f 9 = v9 at *; generalize f 10 = v10 at *; generalize f 11 = v11 at *; generalize f 12 = v12 at *; generalize f 13 = v13 at *; generalize f 14 = v14 at *; generalize f 15 = v15 at *; generalize f 16 = v16 at *
      subst e8 e6
      have hinto := into_put4 wv6 xv6 yv6 zv6 hown
      have hhas := has_put4 wv6 xv6 yv6 zv6 hown
      obtain ⟨⟨m0, m1, m2, m3⟩, mf⟩ := id hown
      refine wpOp_step rfl (fun K hK => ?_)
      go_simp
      exact hK _ _ ⟨rfl, _, rfl, ⟨_, _, _, _, hhas, hv6⟩, hinto⟩
    · obtain rfl := Option.some.inj ho
      obtain ⟨g9, e9, hg9, ⟨q0, q1, q2, q3, ho9⟩, hf9⟩ : isOwn4 _ (f 6) w1 := hdep ⟨9, .data⟩ (by simp) rfl
      have hown : HasF4 w1 g9 q0 q1 q2 q3 := ⟨ho9, hf9⟩
      have hlt := hown.lt
      clear ho9 hf9
      obtain ⟨wv7, xv7, yv7, zv7, e7, hv7⟩ : isTurn _ (f 16) w1 := hdep ⟨7, .data⟩ (by simp) rfl
      clear hdep ho hi
      generalize f 5 = v5 at *; generalize f 6 = v6 at *; generalize f 9 = v9 at *; generalize f 10 = v10 at *; generalize f 11 = v11 at *; generalize f 12 = v12 at *; generalize f 13 = v13 at *; generalize f 14 = v14 at *; generalize f 15 = v15 at *; generalize f 16 = v16 at *
      subst e9 e7
      have hinto := into_put4 wv7 xv7 yv7 zv7 hown
      have hhas := has_put4 wv7 xv7 yv7 zv7 hown
      obtain ⟨⟨m0, m1, m2, m3⟩, mf⟩ := id hown
      refine wpOp_step rfl (fun K hK => ?_)
      go_simp
      exact hK _ _ ⟨rfl, _, rfl, ⟨_, _, _, _, hhas, hv7⟩, hinto⟩
  · intro f w1 hbase hI hS hF
    simp only [mix, List.contains_cons, List.contains_nil, Nat.reduceBEq, Bool.or_true, Bool.or_false, Bool.false_eq_true, if_true, if_false, Nat.reduceAdd, Nat.zero_add]
    obtain ⟨hp0, hp1, hbw, hsz⟩ := hI
    clear hbel
    have hbel := hbw
    clear hbw
    obtain ⟨b1_5, e8, hg1_5, _, _⟩ : isOwn4 _ (f 5) w1 := hF 8 (by simp)
    obtain ⟨w1_5, x1_5, y1_5, z1_5, hp2, hv1_5⟩ : isPut4 (swingC (Ct) (Ca)) b1_5 w1 := put_at e8 (hF 10 (by simp))
    obtain ⟨b1_6, e9, hg1_6, _, _⟩ : isOwn4 _ (f 6) w1 := hF 9 (by simp)
    obtain ⟨w1_6, x1_6, y1_6, z1_6, hp3, hv1_6⟩ : isPut4 (twistC (Ct) (Ca)) b1_6 w1 := put_at e9 (hF 11 (by simp))
    have hne1_5_6 : b1_5 ≠ b1_6 := hS.ne 5 6 _ _ (by decide) (by decide) (by decide) e8 e9
    clear hF hS hbase
    generalize f 5 = v5 at *; generalize f 6 = v6 at *; generalize f 9 = v9 at *; generalize f 10 = v10 at *; generalize f 11 = v11 at *; generalize f 12 = v12 at *; generalize f 13 = v13 at *; generalize f 14 = v14 at *; generalize f 15 = v15 at *; generalize f 16 = v16 at *
    subst e8 e9
    have Lw1hp0 := hp0.lt; have Lw1hp1 := hp1.lt; have Lw1hp2 := hp2.lt; have Lw1hp3 := hp3.lt
    obtain ⟨⟨c0_0, c0_1, c0_2, c0_3⟩, fz0⟩ := id hp0
    obtain ⟨⟨c1_0, c1_1, c1_2⟩, fz1⟩ := id hp1
    obtain ⟨⟨c2_0, c2_1, c2_2, c2_3⟩, fz2⟩ := id hp2
    obtain ⟨⟨c3_0, c3_1, c3_2, c3_3⟩, fz3⟩ := id hp3
    go_upto_region 2 with fail
    refine wp_name (fun wr => HasF4 wr w.heap.size tw tx ty tz ∧ HasF3 wr (w.heap.size + 1) ax ay az ∧ HasF4 wr b1_5 w1_5 x1_5 y1_5 z1_5 ∧ HasF4 wr b1_6 w1_6 x1_6 y1_6 z1_6 ∧ Below w.heap.size w wr) ⟨hp0, hp1, hp2, hp3, hbel⟩ ?_
    clear hbel hsz hp0 hp1 hp2 hp3 c0_0 c0_1 c0_2 c0_3 c1_0 c1_1 c1_2 c2_0 c2_1 c2_2 c2_3 c3_0 c3_1 c3_2 c3_3 fz0 fz1 fz2 fz3
    rintro W2n ⟨hp0, hp1, hp2, hp3, hbel⟩
    have LW2nhp0 := hp0.lt; have LW2nhp1 := hp1.lt; have LW2nhp2 := hp2.lt; have LW2nhp3 := hp3.lt; have SW2n := hbel.size
    refine wp_region_put (fun g => W2n.heap.size ≤ g) [7, 8]
      [FD.val 18 (isV (turn tw tx ty tz)), FD.val 19 (isTurn (Ct)), FD.val 20 (isV (vec ax ay az)), FD.val 21 (isVec (Ca)), FD.val 22 (isTup2 (swingC (Ct) (Ca)) (twistC (Ct) (Ca))), FD.val 17 (isTup2 (swingC (Ct) (Ca)) (twistC (Ct) (Ca))), FD.val 23 (isTurn (swingC (Ct) (Ca))), FD.val 24 (isTurn (twistC (Ct) (Ca))), FD.val 7 (isOwn4 W2n.heap.size), FD.val 8 (isOwn4 W2n.heap.size), FD.put 7 (isPut4 (swingC (Ct) (Ca))), FD.put 8 (isPut4 (twistC (Ct) (Ca)))] [18, 19, 20, 21, 22, 17, 23, 24, 7, 8] rfl
      (fun wr => HasF4 wr w.heap.size tw tx ty tz ∧ HasF3 wr (w.heap.size + 1) ax ay az ∧ HasF4 wr b1_5 w1_5 x1_5 y1_5 z1_5 ∧ HasF4 wr b1_6 w1_6 x1_6 y1_6 z1_6 ∧ Below w.heap.size w wr ∧ W2n.heap.size ≤ wr.heap.size)
      (by kernel_rfl) (by kernel_rfl) (by kernel_rfl) ?_ ?_ ?_ ?_ ?_ ?_ ?_
    · intro p hp
      simp only [List.mem_cons, List.not_mem_nil, or_false] at hp
      rcases hp with rfl | rfl | rfl | rfl | rfl | rfl | rfl | rfl | rfl | rfl | rfl | rfl <;> first | exact good_isV _ _ _ | exact good_isVec _ _ _ | exact good_isTurn _ _ _ | exact good_isFlt _ _ _ _ | exact good_isOwn3 _ _ _ | exact good_isOwn4 _ _ _ | exact good_isTup2 _ _ _ _ | exact good_put3 _ _ _ | exact good_put4 _ _ _
    · rintro wa wb hb ⟨i0, i1, i2, i3, i4, i5⟩
      exact ⟨i0.below hb, i1.below hb, i2.below hb, i3.below hb, i4.trans (hb.mono i4.size), Nat.le_trans i5 hb.size⟩
    · rintro g wa wb hg hi ⟨i0, i1, i2, i3, i4, i5⟩
      change W2n.heap.size ≤ g at hg
      exact ⟨i0.into hi (by omega), i1.into hi (by omega), i2.into hi (by omega), i3.into hi (by omega), below_into i4 hi (by omega), (by rw [hi.size]; exact i5)⟩
    · exact ⟨hp0.below ((Below.refl _ _).drew), hp1.below ((Below.refl _ _).drew), hp2.below ((Below.refl _ _).drew), hp3.below ((Below.refl _ _).drew), hbel.drew, Nat.le_refl _⟩
    · exact sepB_start (by kernel_rfl)
    · intro i o hi ho f w1 hbase hI hS hdep
      simp only [mix, List.contains_cons, List.contains_nil, Nat.reduceBEq, Bool.or_true, Bool.or_false, Bool.false_eq_true, if_true, if_false, Nat.reduceAdd, Nat.zero_add]
      have hcase : i = 0 ∨ i = 1 ∨ i = 2 ∨ i = 3 ∨ i = 4 ∨ i = 5 ∨ i = 6 ∨ i = 7 ∨ i = 8 ∨ i = 9 ∨ i = 10 ∨ i = 11 := by simp at hi; omega
      obtain ⟨⟨⟨c0_0, c0_1, c0_2, c0_3⟩, fz0⟩, ⟨⟨c1_0, c1_1, c1_2⟩, fz1⟩, ⟨⟨c2_0, c2_1, c2_2, c2_3⟩, fz2⟩, ⟨⟨c3_0, c3_1, c3_2, c3_3⟩, fz3⟩, hbw, hsz⟩ := hI
      clear hbase hS
      rcases hcase with rfl | rfl | rfl | rfl | rfl | rfl | rfl | rfl | rfl | rfl | rfl | rfl
      · obtain rfl := Option.some.inj ho
        clear hdep ho hi
        generalize f 7 = v7 at *; generalize f 8 = v8 at *; generalize f 17 = v17 at *; generalize f 18 = v18 at *; generalize f 19 = v19 at *; generalize f 20 = v20 at *; generalize f 21 = v21 at *; generalize f 22 = v22 at *; generalize f 23 = v23 at *; generalize f 24 = v24 at *
        refine wpOp_step rfl (fun K hK => ?_)
        go_simp
        exact hK _ _ ⟨_, rfl, rfl, Below.refl _ _, (fun hc => absurd hc (by decide))⟩
      · obtain rfl := Option.some.inj ho
        have e0 : f 18 = (turn tw tx ty tz) := hdep ⟨0, .data⟩ (by simp) rfl
        clear hdep ho hi
        generalize f 7 = v7 at *; generalize f 8 = v8 at *; generalize f 17 = v17 at *; generalize f 18 = v18 at *; generalize f 19 = v19 at *; generalize f 20 = v20 at *; generalize f 21 = v21 at *; generalize f 22 = v22 at *; generalize f 23 = v23 at *; generalize f 24 = v24 at *
        subst e0
        refine wpOp_step rfl (fun K hK => ?_)
        go_simp
        refine (toTurn_any ht _).mono ?_
        rintro e w' ⟨⟨y0, y1, y2, y3, rfl, hv⟩, hb⟩
        exact hK _ _ ⟨_, rfl, ⟨_, _, _, _, rfl, hv⟩, hb, (fun hc => absurd hc (by decide))⟩
      · obtain rfl := Option.some.inj ho
        clear hdep ho hi
        generalize f 7 = v7 at *; generalize f 8 = v8 at *; generalize f 17 = v17 at *; generalize f 18 = v18 at *; generalize f 19 = v19 at *; generalize f 20 = v20 at *; generalize f 21 = v21 at *; generalize f 22 = v22 at *; generalize f 23 = v23 at *; generalize f 24 = v24 at *
        refine wpOp_step rfl (fun K hK => ?_)
        go_simp
        exact hK _ _ ⟨_, rfl, rfl, Below.refl _ _, (fun hc => absurd hc (by decide))⟩
      · obtain rfl := Option.some.inj ho
        have e2 : f 20 = (vec ax ay az) := hdep ⟨2, .data⟩ (by simp) rfl
        clear hdep ho hi
        generalize f 7 = v7 at *; generalize f 8 = v8 at *; generalize f 17 = v17 at *; generalize f 18 = v18 at *; generalize f 19 = v19 at *; generalize f 20 = v20 at *; generalize f 21 = v21 at *; generalize f 22 = v22 at *; generalize f 23 = v23 at *; generalize f 24 = v24 at *
        subst e2
        refine wpOp_step rfl (fun K hK => ?_)
        go_simp
        refine (toVector_any ha _).mono ?_
        rintro e w' ⟨⟨y0, y1, y2, rfl, hv⟩, hb⟩
        exact hK _ _ ⟨_, rfl, ⟨_, _, _, rfl, hv⟩, hb, (fun hc => absurd hc (by decide))⟩
      · obtain rfl := Option.some.inj ho
        obtain ⟨wv1, xv1, yv1, zv1, e1, hv1⟩ : isTurn _ (f 19) w1 := hdep ⟨1, .data⟩ (by simp) rfl
        obtain ⟨xv3, yv3, zv3, e3, hv3⟩ : isVec _ (f 21) w1 := hdep ⟨3, .data⟩ (by simp) rfl
        clear hdep ho hi
        generalize f 7 = v7 at *; generalize f 8 = v8 at *; generalize f 17 = v17 at *; generalize f 18 = v18 at *; generalize f 19 = v19 at *; generalize f 20 = v20 at *; generalize f 21 = v21 at *; generalize f 22 = v22 at *; generalize f 23 = v23 at *; generalize f 24 = v24 at *
        subst e1 e3
        refine wpOp_step rfl (fun K hK => ?_)
        go_simp
        refine (c_impl_SwingAndTwist hv1 hv3 _).mono ?_
        rintro e w' ⟨⟨_, _, _, _, _, _, _, _, rfl, hv, hv2⟩, hb⟩
        exact hK _ _ ⟨_, rfl, ⟨_, _, _, _, _, _, _, _, rfl, hv, hv2⟩, hb, (fun hc => absurd hc (by decide))⟩
      · obtain rfl := Option.some.inj ho
        obtain ⟨ta, tb, tc, td, ua, ub, uc, ud, e4, hS2, hT2⟩ : isTup2 _ _ (f 22) w1 := hdep ⟨4, .data⟩ (by simp) rfl
        clear hdep ho hi
        generalize f 7 = v7 at *; generalize f 8 = v8 at *; generalize f 17 = v17 at *; generalize f 18 = v18 at *; generalize f 19 = v19 at *; generalize f 20 = v20 at *; generalize f 21 = v21 at *; generalize f 22 = v22 at *; generalize f 23 = v23 at *; generalize f 24 = v24 at *
        subst e4
        refine wpOp_step rfl (fun K hK => ?_)
        go_simp
        exact hK _ _ ⟨_, rfl, ⟨_, _, _, _, _, _, _, _, rfl, hS2, hT2⟩, Below.refl _ _, (fun hc => absurd hc (by decide))⟩
      · obtain rfl := Option.some.inj ho
        obtain ⟨ta, tb, tc, td, ua, ub, uc, ud, e5, hS2, hT2⟩ : isTup2 _ _ (f 17) w1 := hdep ⟨5, .data⟩ (by simp) rfl
        clear hdep ho hi
        generalize f 7 = v7 at *; generalize f 8 = v8 at *; generalize f 17 = v17 at *; generalize f 18 = v18 at *; generalize f 19 = v19 at *; generalize f 20 = v20 at *; generalize f 21 = v21 at *; generalize f 22 = v22 at *; generalize f 23 = v23 at *; generalize f 24 = v24 at *
        subst e5
        refine wpOp_step rfl (fun K hK => ?_)
        go_simp
        exact hK _ _ ⟨_, rfl, ⟨_, _, _, _, rfl, hS2⟩, Below.refl _ _, (fun hc => absurd hc (by decide))⟩
      · obtain rfl := Option.some.inj ho
        obtain ⟨ta, tb, tc, td, ua, ub, uc, ud, e5, hS2, hT2⟩ : isTup2 _ _ (f 17) w1 := hdep ⟨5, .data⟩ (by simp) rfl
        clear hdep ho hi
        generalize f 7 = v7 at *; generalize f 8 = v8 at *; generalize f 17 = v17 at *; generalize f 18 = v18 at *; generalize f 19 = v19 at *; generalize f 20 = v20 at *; generalize f 21 = v21 at *; generalize f 22 = v22 at *; generalize f 23 = v23 at *; generalize f 24 = v24 at *
        subst e5
        refine wpOp_step rfl (fun K hK => ?_)
        go_simp
        exact hK _ _ ⟨_, rfl, ⟨_, _, _, _, rfl, hT2⟩, Below.refl _ _, (fun hc => absurd hc (by decide))⟩
      · obtain rfl := Option.some.inj ho
        clear hdep ho hi
        generalize f 7 = v7 at *; generalize f 8 = v8 at *; generalize f 17 = v17 at *; generalize f 18 = v18 at *; generalize f 19 = v19 at *; generalize f 20 = v20 at *; generalize f 21 = v21 at *; generalize f 22 = v22 at *; generalize f 23 = v23 at *; generalize f 24 = v24 at *
        refine wpOp_step rfl (fun K hK => ?_)
        go_simp
        exact hK _ _ ⟨_, rfl, ⟨_, rfl, own4_new _ _ hsz _ _ _ _ _⟩, (Below.refl _ _).alloc (Nat.le_refl _) _, fun _ p hp => by cases hp; exact ⟨hsz, Nat.le_refl _, by simp⟩⟩
      · obtain rfl := Option.some.inj ho
        clear hdep ho hi
        generalize f 7 = v7 at *; generalize f 8 = v8 at *; generalize f 17 = v17 at *; generalize f 18 = v18 at *; generalize f 19 = v19 at *; generalize f 20 = v20 at *; generalize f 21 = v21 at *; generalize f 22 = v22 at *; generalize f 23 = v23 at *; generalize f 24 = v24 at *
        refine wpOp_step rfl (fun K hK => ?_)
        go_simp
        exact hK _ _ ⟨_, rfl, ⟨_, rfl, own4_new _ _ hsz _ _ _ _ _⟩, (Below.refl _ _).alloc (Nat.le_refl _) _, fun _ p hp => by cases hp; exact ⟨hsz, Nat.le_refl _, by simp⟩⟩
      · obtain rfl := Option.some.inj ho
        obtain ⟨g8, e8, hg8, ⟨q0, q1, q2, q3, ho8⟩, hf8⟩ : isOwn4 _ (f 7) w1 := hdep ⟨8, .data⟩ (by simp) rfl
        have hown : HasF4 w1 g8 q0 q1 q2 q3 := ⟨ho8, hf8⟩
        have hlt := hown.lt
        clear ho8 hf8
        obtain ⟨wv6, xv6, yv6, zv6, e6, hv6⟩ : isTurn _ (f 23) w1 := hdep ⟨6, .data⟩ (by simp) rfl
        clear hdep ho hi
        generalize f 7 = v7 at *; generalize f 8 = v8 at *; generalize f 17 = v17 at *; generalize f 18 = v18 at *; generalize f 19 = v19 at *; generalize f 20 = v20 at *; generalize f 21 = v21 at *; generalize f 22 = v22 at *; generalize f 23 = v23 at *; generalize f 24 = v24 at *
        subst e8 e6
        have hinto := into_put4 wv6 xv6 yv6 zv6 hown
        have hhas := has_put4 wv6 xv6 yv6 zv6 hown
        obtain ⟨⟨m0, m1, m2, m3⟩, mf⟩ := id hown
        refine wpOp_step rfl (fun K hK => ?_)
        go_simp
        exact hK _ _ ⟨rfl, _, rfl, ⟨_, _, _, _, hhas, hv6⟩, hinto⟩
      · obtain rfl := Option.some.inj ho
        obtain ⟨g9, e9, hg9, ⟨q0, q1, q2, q3, ho9⟩, hf9⟩ : isOwn4 _ (f 8) w1 := hdep ⟨9, .data⟩ (by simp) rfl
        have hown : HasF4 w1 g9 q0 q1 q2 q3 := ⟨ho9, hf9⟩
        have hlt := hown.lt
        clear ho9 hf9
        obtain ⟨wv7, xv7, yv7, zv7, e7, hv7⟩ : isTurn _ (f 24) w1 := hdep ⟨7, .data⟩ (by simp) rfl
        clear hdep ho hi
        generalize f 7 = v7 at *; generalize f 8 = v8 at *; generalize f 17 = v17 at *; generalize f 18 = v18 at *; generalize f 19 = v19 at *; generalize f 20 = v20 at *; generalize f 21 = v21 at *; generalize f 22 = v22 at *; generalize f 23 = v23 at *; generalize f 24 = v24 at *
        subst e9 e7
        have hinto := into_put4 wv7 xv7 yv7 zv7 hown
        have hhas := has_put4 wv7 xv7 yv7 zv7 hown
        obtain ⟨⟨m0, m1, m2, m3⟩, mf⟩ := id hown
        refine wpOp_step rfl (fun K hK => ?_)
        go_simp
        exact hK _ _ ⟨rfl, _, rfl, ⟨_, _, _, _, hhas, hv7⟩, hinto⟩
    · intro f w1 hbase hI hS hF
      simp only [mix, List.contains_cons, List.contains_nil, Nat.reduceBEq, Bool.or_true, Bool.or_false, Bool.false_eq_true, if_true, if_false, Nat.reduceAdd, Nat.zero_add]
      obtain ⟨hp0, hp1, hp2, hp3, hbw, hsz⟩ := hI
      clear hbel
      have hbel := hbw
      clear hbw
      obtain ⟨b3_7, e8, hg3_7, _, _⟩ : isOwn4 _ (f 7) w1 := hF 8 (by simp)
      obtain ⟨w3_7, x3_7, y3_7, z3_7, hp4, hv3_7⟩ : isPut4 (swingC (Ct) (Ca)) b3_7 w1 := put_at e8 (hF 10 (by simp))
      obtain ⟨b3_8, e9, hg3_8, _, _⟩ : isOwn4 _ (f 8) w1 := hF 9 (by simp)
      obtain ⟨w3_8, x3_8, y3_8, z3_8, hp5, hv3_8⟩ : isPut4 (twistC (Ct) (Ca)) b3_8 w1 := put_at e9 (hF 11 (by simp))
      have hne3_7_8 : b3_7 ≠ b3_8 := hS.ne 7 8 _ _ (by decide) (by decide) (by decide) e8 e9
      clear hF hS hbase
      generalize f 7 = v7 at *; generalize f 8 = v8 at *; generalize f 17 = v17 at *; generalize f 18 = v18 at *; generalize f 19 = v19 at *; generalize f 20 = v20 at *; generalize f 21 = v21 at *; generalize f 22 = v22 at *; generalize f 23 = v23 at *; generalize f 24 = v24 at *
      subst e8 e9
      have Lw3hp0 := hp0.lt; have Lw3hp1 := hp1.lt; have Lw3hp2 := hp2.lt; have Lw3hp3 := hp3.lt; have Lw3hp4 := hp4.lt; have Lw3hp5 := hp5.lt
      obtain ⟨⟨c0_0, c0_1, c0_2, c0_3⟩, fz0⟩ := id hp0
      obtain ⟨⟨c1_0, c1_1, c1_2⟩, fz1⟩ := id hp1
      obtain ⟨⟨c2_0, c2_1, c2_2, c2_3⟩, fz2⟩ := id hp2
      obtain ⟨⟨c3_0, c3_1, c3_2, c3_3⟩, fz3⟩ := id hp3
      obtain ⟨⟨c4_0, c4_1, c4_2, c4_3⟩, fz4⟩ := id hp4
      obtain ⟨⟨c5_0, c5_1, c5_2, c5_3⟩, fz5⟩ := id hp5
      go_upto_region 3 with fail
      refine wp_name (fun wr => HasF4 wr w.heap.size tw tx ty tz ∧ HasF3 wr (w.heap.size + 1) ax ay az ∧ HasF4 wr b1_5 w1_5 x1_5 y1_5 z1_5 ∧ HasF4 wr b1_6 w1_6 x1_6 y1_6 z1_6 ∧ HasF4 wr b3_7 w3_7 x3_7 y3_7 z3_7 ∧ HasF4 wr b3_8 w3_8 x3_8 y3_8 z3_8 ∧ Below w.heap.size w wr) ⟨hp0, hp1, hp2, hp3, hp4, hp5, hbel⟩ ?_
      clear hbel hsz hp0 hp1 hp2 hp3 hp4 hp5 c0_0 c0_1 c0_2 c0_3 c1_0 c1_1 c1_2 c2_0 c2_1 c2_2 c2_3 c3_0 c3_1 c3_2 c3_3 c4_0 c4_1 c4_2 c4_3 c5_0 c5_1 c5_2 c5_3 fz0 fz1 fz2 fz3 fz4 fz5
      rintro W4n ⟨hp0, hp1, hp2, hp3, hp4, hp5, hbel⟩
      have LW4nhp0 := hp0.lt; have LW4nhp1 := hp1.lt; have LW4nhp2 := hp2.lt; have LW4nhp3 := hp3.lt; have LW4nhp4 := hp4.lt; have LW4nhp5 := hp5.lt; have SW4n := hbel.size
      obtain ⟨⟨c0_0, c0_1, c0_2, c0_3⟩, fz0⟩ := id hp0
      obtain ⟨⟨c1_0, c1_1, c1_2⟩, fz1⟩ := id hp1
      obtain ⟨⟨c2_0, c2_1, c2_2, c2_3⟩, fz2⟩ := id hp2
      obtain ⟨⟨c3_0, c3_1, c3_2, c3_3⟩, fz3⟩ := id hp3
      obtain ⟨⟨c4_0, c4_1, c4_2, c4_3⟩, fz4⟩ := id hp4
      obtain ⟨⟨c5_0, c5_1, c5_2, c5_3⟩, fz5⟩ := id hp5
      go_wp2_with fail
      refine (eqTurn_any hv3_7 hv1_5 _).mono ?_
      rintro e W7e ⟨rfl, hb⟩
      clear c0_0 c0_1 c0_2 c0_3 c1_0 c1_1 c1_2 c2_0 c2_1 c2_2 c2_3 c3_0 c3_1 c3_2 c3_3 c4_0 c4_1 c4_2 c4_3 c5_0 c5_1 c5_2 c5_3 fz0 fz1 fz2 fz3 fz4 fz5
      replace hp0 := hp0.below hb
      replace hp1 := hp1.below hb
      replace hp2 := hp2.below hb
      replace hp3 := hp3.below hb
      replace hp4 := hp4.below hb
      replace hp5 := hp5.below hb
      replace hbel := hbel.trans (hb.mono hbel.size)
      clear hb
      obtain ⟨⟨c0_0, c0_1, c0_2, c0_3⟩, fz0⟩ := id hp0
      obtain ⟨⟨c1_0, c1_1, c1_2⟩, fz1⟩ := id hp1
      obtain ⟨⟨c2_0, c2_1, c2_2, c2_3⟩, fz2⟩ := id hp2
      obtain ⟨⟨c3_0, c3_1, c3_2, c3_3⟩, fz3⟩ := id hp3
      obtain ⟨⟨c4_0, c4_1, c4_2, c4_3⟩, fz4⟩ := id hp4
      obtain ⟨⟨c5_0, c5_1, c5_2, c5_3⟩, fz5⟩ := id hp5
      go_wp2_with fail
      refine (eqTurn_any hv3_8 hv1_6 _).mono ?_
      rintro e W8e ⟨rfl, hb⟩
      clear c0_0 c0_1 c0_2 c0_3 c1_0 c1_1 c1_2 c2_0 c2_1 c2_2 c2_3 c3_0 c3_1 c3_2 c3_3 c4_0 c4_1 c4_2 c4_3 c5_0 c5_1 c5_2 c5_3 fz0 fz1 fz2 fz3 fz4 fz5
      replace hp0 := hp0.below hb
      replace hp1 := hp1.below hb
      replace hp2 := hp2.below hb
      replace hp3 := hp3.below hb
      replace hp4 := hp4.below hb
      replace hp5 := hp5.below hb
      replace hbel := hbel.trans (hb.mono hbel.size)
      clear hb
      go_wp2_with fail
      go_ret
      exact ⟨rfl, hbel⟩

theorem walk_SwingAndTwist (a00 : Nat) (w00 : a00 < 2 ^ FloatKind.f32.format.width) (a01 : Nat) (w01 : a01 < 2 ^ FloatKind.f32.format.width) (a02 : Nat) (w02 : a02 < 2 ^ FloatKind.f32.format.width) (a03 : Nat) (w03 : a03 < 2 ^ FloatKind.f32.format.width) (a10 : Nat) (w10 : a10 < 2 ^ FloatKind.f32.format.width) (a11 : Nat) (w11 : a11 < 2 ^ FloatKind.f32.format.width) (a12 : Nat) (w12 : a12 < 2 ^ FloatKind.f32.format.width) (w : World) :
    Calls Try.prog 4 #[turn a00 a01 a02 a03, vec a10 a11 a12] w (RetB true w) :=
  core_SwingAndTwist (Ct := ⟨cls .f32 a00, cls .f32 a01, cls .f32 a02, cls .f32 a03⟩) (Ca := ⟨cls .f32 a10, cls .f32 a11, cls .f32 a12⟩) ⟨Fv.self w00, Fv.self w01, Fv.self w02, Fv.self w03⟩ ⟨Fv.self w10, Fv.self w11, Fv.self w12⟩ w

end Go.Proofs.Ytpfijbgkhekjfaa
