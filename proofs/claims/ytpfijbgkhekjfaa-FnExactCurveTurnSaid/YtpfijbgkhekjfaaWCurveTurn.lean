/-
  The walks of the statements on vectors and turns: CurveTurn. No condition but that the words fit their kinds.
-/
import Derived.Test.YtpfijbgkhekjfaaVw
set_option linter.unusedVariables false
namespace Go.Proofs.Ytpfijbgkhekjfaa
open Go.RowKit Go.Proofs.Ytpfijbgkhekjfaa.Fl

set_option maxHeartbeats 2000000 in
set_option maxRecDepth 10000 in
theorem core_CurveTurn {a00 a01 a02 a03 a10 a11 a12 a13 a20 a21 a22 a23 a30 a31 a32 a33 a40 : Nat} {k0 : V4} {k1 : V4} {k2 : V4} {k3 : V4} {k4 : Option Nat} (h0 : Fv4 a00 a01 a02 a03 k0) (h1 : Fv4 a10 a11 a12 a13 k1) (h2 : Fv4 a20 a21 a22 a23 k2) (h3 : Fv4 a30 a31 a32 a33 k3) (h4 : Fv .f32 a40 k4) (w : World) :
    Calls Try.prog 3 #[turn a00 a01 a02 a03, turn a10 a11 a12 a13, turn a20 a21 a22 a23, turn a30 a31 a32 a33, .float .f32 a40] w (RetB true w) := by
  go_enter Try.func3, Try.ntmps3
  go_wp2_with fail
  refine wp_name (fun W => Has4 W w.heap.size a00 a01 a02 a03 ∧ Has4 W (w.heap.size + 1) a10 a11 a12 a13 ∧ Has4 W (w.heap.size + 1 + 1) a20 a21 a22 a23 ∧ Has4 W (w.heap.size + 1 + 1 + 1) a30 a31 a32 a33 ∧ Below w.heap.size w W) ⟨⟨by go_simp, by go_simp, by go_simp, by go_simp⟩, ⟨by go_simp, by go_simp, by go_simp, by go_simp⟩, ⟨by go_simp, by go_simp, by go_simp, by go_simp⟩, ⟨by go_simp, by go_simp, by go_simp, by go_simp⟩, by (repeat (first | exact Below.refl _ _ | (refine below_drewN ?_ _) | (refine Below.drew ?_) | (refine Below.setCell ?_ (by first | omega | (simp; try omega)) _) | (refine Below.alloc ?_ (by first | omega | (simp; try omega)) _) | (refine Below.trans ?_ (Below.mono (by assumption) (by first | omega | (simp; try omega))))))⟩ ?_
  rintro W ⟨hp0, hp1, hp2, hp3, hbel⟩
  have L0 := hp0.lt
  have L1 := hp1.lt
  have L2 := hp2.lt
  have L3 := hp3.lt
  refine wp_region_drawn [(13, isV (turn a00 a01 a02 a03)), (14, isTurn k0), (15, isV (turn a10 a11 a12 a13)), (16, isTurn k1), (17, isV (turn a20 a21 a22 a23)), (18, isTurn k2), (19, isV (turn a30 a31 a32 a33)), (20, isTurn k3), (21, isV (.float .f32 a40)), (22, isTurn (curveC k0 k1 k2 k3 k4)), (11, isOwn4 W.heap.size)]
    (fun wr => Has4 wr w.heap.size a00 a01 a02 a03 ∧ Has4 wr (w.heap.size + 1) a10 a11 a12 a13 ∧ Has4 wr (w.heap.size + 1 + 1) a20 a21 a22 a23 ∧ Has4 wr (w.heap.size + 1 + 1 + 1) a30 a31 a32 a33 ∧ Below W.heap.size W wr)
    (by kernel_rfl) (by kernel_rfl) (by kernel_rfl) (by kernel_rfl) (Nat.le_of_ble_eq_true (by kernel_rfl)) (by kernel_rfl) ?_ (fun _ _ hb h => ⟨h.1.below hb, h.2.1.below hb, h.2.2.1.below hb, h.2.2.2.1.below hb, h.2.2.2.2.trans (hb.mono h.2.2.2.2.size)⟩) ⟨hp0, hp1, hp2, hp3, (Below.refl _ _).drew⟩ ?_ ?_
  · intro p hp
    simp only [List.mem_cons, List.not_mem_nil, or_false] at hp
    rcases hp with rfl | rfl | rfl | rfl | rfl | rfl | rfl | rfl | rfl | rfl | rfl <;> first | exact mono_isV _ | exact mono_isVec _ | exact mono_isTurn _ | exact mono_isFlt _ _ | exact mono_isOwn3 _ | exact mono_isOwn4 _
  · intro i o hi ho f w1 hI hdep
    simp only [List.map_cons, List.map_nil, mix, List.contains_cons, List.contains_nil, Nat.reduceBEq, Bool.or_true, Bool.or_false, Bool.false_eq_true, if_true, if_false, Nat.reduceAdd, Nat.zero_add]
    have hcase : i = 0 ∨ i = 1 ∨ i = 2 ∨ i = 3 ∨ i = 4 ∨ i = 5 ∨ i = 6 ∨ i = 7 ∨ i = 8 ∨ i = 9 ∨ i = 10 := by simp at hi; omega
    obtain ⟨⟨c00, c01, c02, c03⟩, ⟨c10, c11, c12, c13⟩, ⟨c20, c21, c22, c23⟩, ⟨c30, c31, c32, c33⟩, hb1⟩ := hI
    have hsz := hb1.size
    rcases hcase with rfl | rfl | rfl | rfl | rfl | rfl | rfl | rfl | rfl | rfl | rfl
    · obtain rfl := Option.some.inj ho
      clear hdep ho hi
      generalize f 11 = v11 at *; generalize f 13 = v13 at *; generalize f 14 = v14 at *; generalize f 15 = v15 at *; generalize f 16 = v16 at *; generalize f 17 = v17 at *; generalize f 18 = v18 at *; generalize f 19 = v19 at *; generalize f 20 = v20 at *; generalize f 21 = v21 at *; generalize f 22 = v22 at *
      refine wpOp_step rfl (fun K hK => ?_)
      go_simp
      exact hK _ _ ⟨_, rfl, (fun p hp => by cases hp; rfl), Below.refl _ _⟩
    · obtain rfl := Option.some.inj ho
      have e0 : f 13 = (turn a00 a01 a02 a03) := hdep ⟨0, .data⟩ (by simp) rfl
      clear hdep ho hi
      generalize f 11 = v11 at *; generalize f 13 = v13 at *; generalize f 14 = v14 at *; generalize f 15 = v15 at *; generalize f 16 = v16 at *; generalize f 17 = v17 at *; generalize f 18 = v18 at *; generalize f 19 = v19 at *; generalize f 20 = v20 at *; generalize f 21 = v21 at *; generalize f 22 = v22 at *
      subst e0
      refine wpOp_step rfl (fun K hK => ?_)
      go_simp
      refine (toTurn_any (by assumption) _).mono ?_
      rintro e w' ⟨⟨p2, x2, y2, z2, rfl, hv⟩, hb⟩
      exact hK _ _ ⟨_, rfl, (fun p hp => by cases hp; exact ⟨_, _, _, _, rfl, hv⟩), hb⟩
    · obtain rfl := Option.some.inj ho
      clear hdep ho hi
      generalize f 11 = v11 at *; generalize f 13 = v13 at *; generalize f 14 = v14 at *; generalize f 15 = v15 at *; generalize f 16 = v16 at *; generalize f 17 = v17 at *; generalize f 18 = v18 at *; generalize f 19 = v19 at *; generalize f 20 = v20 at *; generalize f 21 = v21 at *; generalize f 22 = v22 at *
      refine wpOp_step rfl (fun K hK => ?_)
      go_simp
      exact hK _ _ ⟨_, rfl, (fun p hp => by cases hp; rfl), Below.refl _ _⟩
    · obtain rfl := Option.some.inj ho
      have e2 : f 15 = (turn a10 a11 a12 a13) := hdep ⟨2, .data⟩ (by simp) rfl
      clear hdep ho hi
      generalize f 11 = v11 at *; generalize f 13 = v13 at *; generalize f 14 = v14 at *; generalize f 15 = v15 at *; generalize f 16 = v16 at *; generalize f 17 = v17 at *; generalize f 18 = v18 at *; generalize f 19 = v19 at *; generalize f 20 = v20 at *; generalize f 21 = v21 at *; generalize f 22 = v22 at *
      subst e2
      refine wpOp_step rfl (fun K hK => ?_)
      go_simp
      refine (toTurn_any (by assumption) _).mono ?_
      rintro e w' ⟨⟨p2, x2, y2, z2, rfl, hv⟩, hb⟩
      exact hK _ _ ⟨_, rfl, (fun p hp => by cases hp; exact ⟨_, _, _, _, rfl, hv⟩), hb⟩
    · obtain rfl := Option.some.inj ho
      clear hdep ho hi
      generalize f 11 = v11 at *; generalize f 13 = v13 at *; generalize f 14 = v14 at *; generalize f 15 = v15 at *; generalize f 16 = v16 at *; generalize f 17 = v17 at *; generalize f 18 = v18 at *; generalize f 19 = v19 at *; generalize f 20 = v20 at *; generalize f 21 = v21 at *; generalize f 22 = v22 at *
      refine wpOp_step rfl (fun K hK => ?_)
      go_simp
      exact hK _ _ ⟨_, rfl, (fun p hp => by cases hp; rfl), Below.refl _ _⟩
    · obtain rfl := Option.some.inj ho
      have e4 : f 17 = (turn a20 a21 a22 a23) := hdep ⟨4, .data⟩ (by simp) rfl
      clear hdep ho hi
      generalize f 11 = v11 at *; generalize f 13 = v13 at *; generalize f 14 = v14 at *; generalize f 15 = v15 at *; generalize f 16 = v16 at *; generalize f 17 = v17 at *; generalize f 18 = v18 at *; generalize f 19 = v19 at *; generalize f 20 = v20 at *; generalize f 21 = v21 at *; generalize f 22 = v22 at *
      subst e4
      refine wpOp_step rfl (fun K hK => ?_)
      go_simp
      refine (toTurn_any (by assumption) _).mono ?_
      rintro e w' ⟨⟨p2, x2, y2, z2, rfl, hv⟩, hb⟩
      exact hK _ _ ⟨_, rfl, (fun p hp => by cases hp; exact ⟨_, _, _, _, rfl, hv⟩), hb⟩
    · obtain rfl := Option.some.inj ho
      clear hdep ho hi
      generalize f 11 = v11 at *; generalize f 13 = v13 at *; generalize f 14 = v14 at *; generalize f 15 = v15 at *; generalize f 16 = v16 at *; generalize f 17 = v17 at *; generalize f 18 = v18 at *; generalize f 19 = v19 at *; generalize f 20 = v20 at *; generalize f 21 = v21 at *; generalize f 22 = v22 at *
      refine wpOp_step rfl (fun K hK => ?_)
      go_simp
      exact hK _ _ ⟨_, rfl, (fun p hp => by cases hp; rfl), Below.refl _ _⟩
    · obtain rfl := Option.some.inj ho
      have e6 : f 19 = (turn a30 a31 a32 a33) := hdep ⟨6, .data⟩ (by simp) rfl
      clear hdep ho hi
      generalize f 11 = v11 at *; generalize f 13 = v13 at *; generalize f 14 = v14 at *; generalize f 15 = v15 at *; generalize f 16 = v16 at *; generalize f 17 = v17 at *; generalize f 18 = v18 at *; generalize f 19 = v19 at *; generalize f 20 = v20 at *; generalize f 21 = v21 at *; generalize f 22 = v22 at *
      subst e6
      refine wpOp_step rfl (fun K hK => ?_)
      go_simp
      refine (toTurn_any (by assumption) _).mono ?_
      rintro e w' ⟨⟨p2, x2, y2, z2, rfl, hv⟩, hb⟩
      exact hK _ _ ⟨_, rfl, (fun p hp => by cases hp; exact ⟨_, _, _, _, rfl, hv⟩), hb⟩
    · obtain rfl := Option.some.inj ho
      clear hdep ho hi
      generalize f 11 = v11 at *; generalize f 13 = v13 at *; generalize f 14 = v14 at *; generalize f 15 = v15 at *; generalize f 16 = v16 at *; generalize f 17 = v17 at *; generalize f 18 = v18 at *; generalize f 19 = v19 at *; generalize f 20 = v20 at *; generalize f 21 = v21 at *; generalize f 22 = v22 at *
      refine wpOp_step rfl (fun K hK => ?_)
      go_simp
      exact hK _ _ ⟨_, rfl, (fun p hp => by cases hp; rfl), Below.refl _ _⟩
    · obtain rfl := Option.some.inj ho
      obtain ⟨p1, x1, y1, z1, e1, hv1⟩ : isTurn _ (f 14) w1 := hdep ⟨1, .data⟩ (by simp) rfl
      obtain ⟨p3, x3, y3, z3, e3, hv3⟩ : isTurn _ (f 16) w1 := hdep ⟨3, .data⟩ (by simp) rfl
      obtain ⟨p5, x5, y5, z5, e5, hv5⟩ : isTurn _ (f 18) w1 := hdep ⟨5, .data⟩ (by simp) rfl
      obtain ⟨p7, x7, y7, z7, e7, hv7⟩ : isTurn _ (f 20) w1 := hdep ⟨7, .data⟩ (by simp) rfl
      have e8 : f 21 = (.float .f32 a40) := hdep ⟨8, .data⟩ (by simp) rfl
      clear hdep ho hi
      generalize f 11 = v11 at *; generalize f 13 = v13 at *; generalize f 14 = v14 at *; generalize f 15 = v15 at *; generalize f 16 = v16 at *; generalize f 17 = v17 at *; generalize f 18 = v18 at *; generalize f 19 = v19 at *; generalize f 20 = v20 at *; generalize f 21 = v21 at *; generalize f 22 = v22 at *
      subst e1 e3 e5 e7 e8
      refine wpOp_step rfl (fun K hK => ?_)
      go_simp
      refine (c_spec_CurveTurn (by assumption) (by assumption) (by assumption) (by assumption) (by assumption) _).mono ?_
      rintro e w' ⟨⟨p2, x2, y2, z2, rfl, hv⟩, hb⟩
      exact hK _ _ ⟨_, rfl, (fun p hp => by cases hp; exact ⟨_, _, _, _, rfl, hv⟩), hb⟩
    · obtain rfl := Option.some.inj ho
      clear hdep ho hi
      generalize f 11 = v11 at *; generalize f 13 = v13 at *; generalize f 14 = v14 at *; generalize f 15 = v15 at *; generalize f 16 = v16 at *; generalize f 17 = v17 at *; generalize f 18 = v18 at *; generalize f 19 = v19 at *; generalize f 20 = v20 at *; generalize f 21 = v21 at *; generalize f 22 = v22 at *
      refine wpOp_step rfl (fun K hK => ?_)
      go_simp
      exact hK _ _ ⟨_, rfl, (fun p hp => by cases hp; exact ⟨_, rfl, own4_new _ _ hsz _ _ _ _ _⟩), (Below.refl _ _).alloc (Nat.le_refl _) _⟩
  · intro f w1 hI hF
    simp only [List.map_cons, List.map_nil, mix, List.contains_cons, List.contains_nil, Nat.reduceBEq, Bool.or_true, Bool.or_false, Bool.false_eq_true, if_true, if_false, Nat.reduceAdd, Nat.zero_add]
    obtain ⟨hp0, hp1, hp2, hp3, hb1⟩ := hI
    have hsz := hb1.size
    obtain ⟨pw, xw, yw, zw, ec, hvw⟩ : isTurn _ (f 22) w1 := hF 9 (by simp)
    obtain ⟨wb, ea, hg1, ⟨q0, q1, q2, q3, hg2⟩, hg3⟩ : isOwn4 _ (f 11) w1 := hF 10 (by simp)
    have hg4 := hg2.lt
    have hm := hg2.made pw xw yw zw
    have hg5 := hg2
    obtain ⟨d0, d1, d2, d3⟩ := hg5
    clear hF
    generalize f 11 = v11 at *; generalize f 13 = v13 at *; generalize f 14 = v14 at *; generalize f 15 = v15 at *; generalize f 16 = v16 at *; generalize f 17 = v17 at *; generalize f 18 = v18 at *; generalize f 19 = v19 at *; generalize f 20 = v20 at *; generalize f 21 = v21 at *; generalize f 22 = v22 at *
    subst ec ea
    change wpAny _ _ _ _ (0 + 1) _ _ _
    refine wpAny_all (rs := [11]) (by kernel_rfl) (by simp) ?_
    intro i hi
    obtain rfl : i = 11 := by simpa using hi
    clear hi
    refine wpOp_step rfl (fun K hK => ?_)
    go_simp
    refine hK _ _ (wpAny_done (by kernel_rfl) ?_ _)
    clear hK K
    go_wp2_with fail
    refine wp_name (fun wr => Has4 wr w.heap.size a00 a01 a02 a03 ∧ Has4 wr (w.heap.size + 1) a10 a11 a12 a13 ∧ Has4 wr (w.heap.size + 1 + 1) a20 a21 a22 a23 ∧ Has4 wr (w.heap.size + 1 + 1 + 1) a30 a31 a32 a33 ∧ Has4 wr wb pw xw yw zw ∧ Below W.heap.size W wr) ⟨((((hp0.set _ _ (by simp; omega)).set _ _ (by simp; omega)).set _ _ (by simp; omega)).set _ _ (by simp; omega)), ((((hp1.set _ _ (by simp; omega)).set _ _ (by simp; omega)).set _ _ (by simp; omega)).set _ _ (by simp; omega)), ((((hp2.set _ _ (by simp; omega)).set _ _ (by simp; omega)).set _ _ (by simp; omega)).set _ _ (by simp; omega)), ((((hp3.set _ _ (by simp; omega)).set _ _ (by simp; omega)).set _ _ (by simp; omega)).set _ _ (by simp; omega)), hm, by (repeat (first | exact Below.refl _ _ | (refine below_drewN ?_ _) | (refine Below.drew ?_) | (refine Below.setCell ?_ (by first | omega | (simp; try omega)) _) | (refine Below.alloc ?_ (by first | omega | (simp; try omega)) _) | (refine Below.trans ?_ (Below.mono (by assumption) (by first | omega | (simp; try omega))))))⟩ ?_
    clear hp0 hp1 hp2 hp3 hm
    rintro W2 ⟨hp0, hp1, hp2, hp3, hw, hbel2⟩
    have LL0 := hp0.lt
    have LL1 := hp1.lt
    have LL2 := hp2.lt
    have LL3 := hp3.lt
    have LL4 := hw.lt
    clear hb1 hsz hg1 hg2 hg3 hg4 d0 d1 d2 d3
    refine wp_region_drawn [(23, isV (turn a00 a01 a02 a03)), (24, isTurn k0), (25, isV (turn a10 a11 a12 a13)), (26, isTurn k1), (27, isV (turn a20 a21 a22 a23)), (28, isTurn k2), (29, isV (turn a30 a31 a32 a33)), (30, isTurn k3), (31, isV (.float .f32 a40)), (32, isTurn (curveC k0 k1 k2 k3 k4)), (12, isOwn4 W2.heap.size)]
      (fun wr => Has4 wr w.heap.size a00 a01 a02 a03 ∧ Has4 wr (w.heap.size + 1) a10 a11 a12 a13 ∧ Has4 wr (w.heap.size + 1 + 1) a20 a21 a22 a23 ∧ Has4 wr (w.heap.size + 1 + 1 + 1) a30 a31 a32 a33 ∧ Has4 wr wb pw xw yw zw ∧ Below W2.heap.size W2 wr)
      (by kernel_rfl) (by kernel_rfl) (by kernel_rfl) (by kernel_rfl) (Nat.le_of_ble_eq_true (by kernel_rfl)) (by kernel_rfl) ?_ (fun _ _ hb h => ⟨h.1.below hb, h.2.1.below hb, h.2.2.1.below hb, h.2.2.2.1.below hb, h.2.2.2.2.1.below hb, h.2.2.2.2.2.trans (hb.mono h.2.2.2.2.2.size)⟩) ⟨hp0, hp1, hp2, hp3, hw, (Below.refl _ _).drew⟩ ?_ ?_
    · intro p hp
      simp only [List.mem_cons, List.not_mem_nil, or_false] at hp
      rcases hp with rfl | rfl | rfl | rfl | rfl | rfl | rfl | rfl | rfl | rfl | rfl <;> first | exact mono_isV _ | exact mono_isVec _ | exact mono_isTurn _ | exact mono_isFlt _ _ | exact mono_isOwn3 _ | exact mono_isOwn4 _
    · intro i o hi ho f w1 hI hdep
      simp only [List.map_cons, List.map_nil, mix, List.contains_cons, List.contains_nil, Nat.reduceBEq, Bool.or_true, Bool.or_false, Bool.false_eq_true, if_true, if_false, Nat.reduceAdd, Nat.zero_add]
      have hcase : i = 0 ∨ i = 1 ∨ i = 2 ∨ i = 3 ∨ i = 4 ∨ i = 5 ∨ i = 6 ∨ i = 7 ∨ i = 8 ∨ i = 9 ∨ i = 10 := by simp at hi; omega
      obtain ⟨⟨c00, c01, c02, c03⟩, ⟨c10, c11, c12, c13⟩, ⟨c20, c21, c22, c23⟩, ⟨c30, c31, c32, c33⟩, ⟨c40, c41, c42, c43⟩, hb1⟩ := hI
      have hsz := hb1.size
      rcases hcase with rfl | rfl | rfl | rfl | rfl | rfl | rfl | rfl | rfl | rfl | rfl
      · obtain rfl := Option.some.inj ho
        clear hdep ho hi
        generalize f 12 = v12 at *; generalize f 23 = v23 at *; generalize f 24 = v24 at *; generalize f 25 = v25 at *; generalize f 26 = v26 at *; generalize f 27 = v27 at *; generalize f 28 = v28 at *; generalize f 29 = v29 at *; generalize f 30 = v30 at *; generalize f 31 = v31 at *; generalize f 32 = v32 at *
        refine wpOp_step rfl (fun K hK => ?_)
        go_simp
        exact hK _ _ ⟨_, rfl, (fun p hp => by cases hp; rfl), Below.refl _ _⟩
      · obtain rfl := Option.some.inj ho
        have e0 : f 23 = (turn a00 a01 a02 a03) := hdep ⟨0, .data⟩ (by simp) rfl
        clear hdep ho hi
        generalize f 12 = v12 at *; generalize f 23 = v23 at *; generalize f 24 = v24 at *; generalize f 25 = v25 at *; generalize f 26 = v26 at *; generalize f 27 = v27 at *; generalize f 28 = v28 at *; generalize f 29 = v29 at *; generalize f 30 = v30 at *; generalize f 31 = v31 at *; generalize f 32 = v32 at *
        subst e0
        refine wpOp_step rfl (fun K hK => ?_)
        go_simp
        refine (toTurn_any (by assumption) _).mono ?_
        rintro e w' ⟨⟨p2, x2, y2, z2, rfl, hv⟩, hb⟩
        exact hK _ _ ⟨_, rfl, (fun p hp => by cases hp; exact ⟨_, _, _, _, rfl, hv⟩), hb⟩
      · obtain rfl := Option.some.inj ho
        clear hdep ho hi
        generalize f 12 = v12 at *; generalize f 23 = v23 at *; generalize f 24 = v24 at *; generalize f 25 = v25 at *; generalize f 26 = v26 at *; generalize f 27 = v27 at *; generalize f 28 = v28 at *; generalize f 29 = v29 at *; generalize f 30 = v30 at *; generalize f 31 = v31 at *; generalize f 32 = v32 at *
        refine wpOp_step rfl (fun K hK => ?_)
        go_simp
        exact hK _ _ ⟨_, rfl, (fun p hp => by cases hp; rfl), Below.refl _ _⟩
      · obtain rfl := Option.some.inj ho
        have e2 : f 25 = (turn a10 a11 a12 a13) := hdep ⟨2, .data⟩ (by simp) rfl
        clear hdep ho hi
        generalize f 12 = v12 at *; generalize f 23 = v23 at *; generalize f 24 = v24 at *; generalize f 25 = v25 at *; generalize f 26 = v26 at *; generalize f 27 = v27 at *; generalize f 28 = v28 at *; generalize f 29 = v29 at *; generalize f 30 = v30 at *; generalize f 31 = v31 at *; generalize f 32 = v32 at *
        subst e2
        refine wpOp_step rfl (fun K hK => ?_)
        go_simp
        refine (toTurn_any (by assumption) _).mono ?_
        rintro e w' ⟨⟨p2, x2, y2, z2, rfl, hv⟩, hb⟩
        exact hK _ _ ⟨_, rfl, (fun p hp => by cases hp; exact ⟨_, _, _, _, rfl, hv⟩), hb⟩
      · obtain rfl := Option.some.inj ho
        clear hdep ho hi
        generalize f 12 = v12 at *; generalize f 23 = v23 at *; generalize f 24 = v24 at *; generalize f 25 = v25 at *; generalize f 26 = v26 at *; generalize f 27 = v27 at *; generalize f 28 = v28 at *; generalize f 29 = v29 at *; generalize f 30 = v30 at *; generalize f 31 = v31 at *; generalize f 32 = v32 at *
        refine wpOp_step rfl (fun K hK => ?_)
        go_simp
        exact hK _ _ ⟨_, rfl, (fun p hp => by cases hp; rfl), Below.refl _ _⟩
      · obtain rfl := Option.some.inj ho
        have e4 : f 27 = (turn a20 a21 a22 a23) := hdep ⟨4, .data⟩ (by simp) rfl
        clear hdep ho hi
        generalize f 12 = v12 at *; generalize f 23 = v23 at *; generalize f 24 = v24 at *; generalize f 25 = v25 at *; generalize f 26 = v26 at *; generalize f 27 = v27 at *; generalize f 28 = v28 at *; generalize f 29 = v29 at *; generalize f 30 = v30 at *; generalize f 31 = v31 at *; generalize f 32 = v32 at *
        subst e4
        refine wpOp_step rfl (fun K hK => ?_)
        go_simp
        refine (toTurn_any (by assumption) _).mono ?_
        rintro e w' ⟨⟨p2, x2, y2, z2, rfl, hv⟩, hb⟩
        exact hK _ _ ⟨_, rfl, (fun p hp => by cases hp; exact ⟨_, _, _, _, rfl, hv⟩), hb⟩
      · obtain rfl := Option.some.inj ho
        clear hdep ho hi
        generalize f 12 = v12 at *; generalize f 23 = v23 at *; generalize f 24 = v24 at *; generalize f 25 = v25 at *; generalize f 26 = v26 at *; generalize f 27 = v27 at *; generalize f 28 = v28 at *; generalize f 29 = v29 at *; generalize f 30 = v30 at *; generalize f 31 = v31 at *; generalize f 32 = v32 at *
        refine wpOp_step rfl (fun K hK => ?_)
        go_simp
        exact hK _ _ ⟨_, rfl, (fun p hp => by cases hp; rfl), Below.refl _ _⟩
      · obtain rfl := Option.some.inj ho
        have e6 : f 29 = (turn a30 a31 a32 a33) := hdep ⟨6, .data⟩ (by simp) rfl
        clear hdep ho hi
        generalize f 12 = v12 at *; generalize f 23 = v23 at *; generalize f 24 = v24 at *; generalize f 25 = v25 at *; generalize f 26 = v26 at *; generalize f 27 = v27 at *; generalize f 28 = v28 at *; generalize f 29 = v29 at *; generalize f 30 = v30 at *; generalize f 31 = v31 at *; generalize f 32 = v32 at *
        subst e6
        refine wpOp_step rfl (fun K hK => ?_)
        go_simp
        refine (toTurn_any (by assumption) _).mono ?_
        rintro e w' ⟨⟨p2, x2, y2, z2, rfl, hv⟩, hb⟩
        exact hK _ _ ⟨_, rfl, (fun p hp => by cases hp; exact ⟨_, _, _, _, rfl, hv⟩), hb⟩
      · obtain rfl := Option.some.inj ho
        clear hdep ho hi
        generalize f 12 = v12 at *; generalize f 23 = v23 at *; generalize f 24 = v24 at *; generalize f 25 = v25 at *; generalize f 26 = v26 at *; generalize f 27 = v27 at *; generalize f 28 = v28 at *; generalize f 29 = v29 at *; generalize f 30 = v30 at *; generalize f 31 = v31 at *; generalize f 32 = v32 at *
        refine wpOp_step rfl (fun K hK => ?_)
        go_simp
        exact hK _ _ ⟨_, rfl, (fun p hp => by cases hp; rfl), Below.refl _ _⟩
      · obtain rfl := Option.some.inj ho
        obtain ⟨p1, x1, y1, z1, e1, hv1⟩ : isTurn _ (f 24) w1 := hdep ⟨1, .data⟩ (by simp) rfl
        obtain ⟨p3, x3, y3, z3, e3, hv3⟩ : isTurn _ (f 26) w1 := hdep ⟨3, .data⟩ (by simp) rfl
        obtain ⟨p5, x5, y5, z5, e5, hv5⟩ : isTurn _ (f 28) w1 := hdep ⟨5, .data⟩ (by simp) rfl
        obtain ⟨p7, x7, y7, z7, e7, hv7⟩ : isTurn _ (f 30) w1 := hdep ⟨7, .data⟩ (by simp) rfl
        have e8 : f 31 = (.float .f32 a40) := hdep ⟨8, .data⟩ (by simp) rfl
        clear hdep ho hi
        generalize f 12 = v12 at *; generalize f 23 = v23 at *; generalize f 24 = v24 at *; generalize f 25 = v25 at *; generalize f 26 = v26 at *; generalize f 27 = v27 at *; generalize f 28 = v28 at *; generalize f 29 = v29 at *; generalize f 30 = v30 at *; generalize f 31 = v31 at *; generalize f 32 = v32 at *
        subst e1 e3 e5 e7 e8
        refine wpOp_step rfl (fun K hK => ?_)
        go_simp
        refine (c_impl_CurveTurn (by assumption) (by assumption) (by assumption) (by assumption) (by assumption) _).mono ?_
        rintro e w' ⟨⟨p2, x2, y2, z2, rfl, hv⟩, hb⟩
        exact hK _ _ ⟨_, rfl, (fun p hp => by cases hp; exact ⟨_, _, _, _, rfl, hv⟩), hb⟩
      · obtain rfl := Option.some.inj ho
        clear hdep ho hi
        generalize f 12 = v12 at *; generalize f 23 = v23 at *; generalize f 24 = v24 at *; generalize f 25 = v25 at *; generalize f 26 = v26 at *; generalize f 27 = v27 at *; generalize f 28 = v28 at *; generalize f 29 = v29 at *; generalize f 30 = v30 at *; generalize f 31 = v31 at *; generalize f 32 = v32 at *
        refine wpOp_step rfl (fun K hK => ?_)
        go_simp
        exact hK _ _ ⟨_, rfl, (fun p hp => by cases hp; exact ⟨_, rfl, own4_new _ _ hsz _ _ _ _ _⟩), (Below.refl _ _).alloc (Nat.le_refl _) _⟩
    · intro f w1 hI hF
      simp only [List.map_cons, List.map_nil, mix, List.contains_cons, List.contains_nil, Nat.reduceBEq, Bool.or_true, Bool.or_false, Bool.false_eq_true, if_true, if_false, Nat.reduceAdd, Nat.zero_add]
      obtain ⟨hp0, hp1, hp2, hp3, hw, hb1⟩ := hI
      have hsz := hb1.size
      obtain ⟨pg, xg, yg, zg, ec, hvg⟩ : isTurn _ (f 32) w1 := hF 9 (by simp)
      obtain ⟨gb, ea, hg1, ⟨q0, q1, q2, q3, hg2⟩, hg3⟩ : isOwn4 _ (f 12) w1 := hF 10 (by simp)
      have hg4 := hg2.lt
      have hm := hg2.made pg xg yg zg
      have hg5 := hg2
      obtain ⟨d0, d1, d2, d3⟩ := hg5
      clear hF
      generalize f 12 = v12 at *; generalize f 23 = v23 at *; generalize f 24 = v24 at *; generalize f 25 = v25 at *; generalize f 26 = v26 at *; generalize f 27 = v27 at *; generalize f 28 = v28 at *; generalize f 29 = v29 at *; generalize f 30 = v30 at *; generalize f 31 = v31 at *; generalize f 32 = v32 at *
      subst ec ea
      change wpAny _ _ _ _ (0 + 1) _ _ _
      refine wpAny_all (rs := [11]) (by kernel_rfl) (by simp) ?_
      intro i hi
      obtain rfl : i = 11 := by simpa using hi
      clear hi
      refine wpOp_step rfl (fun K hK => ?_)
      go_simp
      refine hK _ _ (wpAny_done (by kernel_rfl) ?_ _)
      clear hK K
      skip
      have hbA := hbel.trans (hbel2.mono hbel.size)
      have hbB := hbA.trans (hb1.mono hbA.size)
      have hw2 := ((((hw.set ⟨gb, 0, none⟩ (.float .f32 pg) (by simp; omega)).set ⟨gb, 1, none⟩ (.float .f32 xg) (by simp; omega)).set ⟨gb, 2, none⟩ (.float .f32 yg) (by simp; omega)).set ⟨gb, 3, none⟩ (.float .f32 zg) (by simp; omega))
      obtain ⟨u0, u1, u2, u3⟩ := hw2
      obtain ⟨m0, m1, m2, m3⟩ := hm
      have hbC : Below w.heap.size w _ := ((((hbB.setCell (p := ⟨gb, 0, none⟩) (by have := hbA.size; simp; omega) (.float .f32 pg)).setCell (p := ⟨gb, 1, none⟩) (by have := hbA.size; simp; omega) (.float .f32 xg)).setCell (p := ⟨gb, 2, none⟩) (by have := hbA.size; simp; omega) (.float .f32 yg)).setCell (p := ⟨gb, 3, none⟩) (by have := hbA.size; simp; omega) (.float .f32 zg))
      go_wp2_with fail
      skip
      refine (eqTurn_any (by assumption) (by assumption) _).mono ?_
      rintro e w' ⟨rfl, hb⟩
      go_wp2_with fail
      go_ret
      exact ⟨rfl, hbC.trans (hb.mono hbC.size)⟩

theorem walk_CurveTurn (a00 : Nat) (w00 : a00 < 2 ^ FloatKind.f32.format.width) (a01 : Nat) (w01 : a01 < 2 ^ FloatKind.f32.format.width) (a02 : Nat) (w02 : a02 < 2 ^ FloatKind.f32.format.width) (a03 : Nat) (w03 : a03 < 2 ^ FloatKind.f32.format.width) (a10 : Nat) (w10 : a10 < 2 ^ FloatKind.f32.format.width) (a11 : Nat) (w11 : a11 < 2 ^ FloatKind.f32.format.width) (a12 : Nat) (w12 : a12 < 2 ^ FloatKind.f32.format.width) (a13 : Nat) (w13 : a13 < 2 ^ FloatKind.f32.format.width) (a20 : Nat) (w20 : a20 < 2 ^ FloatKind.f32.format.width) (a21 : Nat) (w21 : a21 < 2 ^ FloatKind.f32.format.width) (a22 : Nat) (w22 : a22 < 2 ^ FloatKind.f32.format.width) (a23 : Nat) (w23 : a23 < 2 ^ FloatKind.f32.format.width) (a30 : Nat) (w30 : a30 < 2 ^ FloatKind.f32.format.width) (a31 : Nat) (w31 : a31 < 2 ^ FloatKind.f32.format.width) (a32 : Nat) (w32 : a32 < 2 ^ FloatKind.f32.format.width) (a33 : Nat) (w33 : a33 < 2 ^ FloatKind.f32.format.width) (a4 : Nat) (w4 : a4 < 2 ^ FloatKind.f32.format.width) (w : World) :
    Calls Try.prog 3 #[turn a00 a01 a02 a03, turn a10 a11 a12 a13, turn a20 a21 a22 a23, turn a30 a31 a32 a33, .float .f32 a4] w (RetB true w) :=
  core_CurveTurn (k0 := ⟨cls .f32 a00, cls .f32 a01, cls .f32 a02, cls .f32 a03⟩) (k1 := ⟨cls .f32 a10, cls .f32 a11, cls .f32 a12, cls .f32 a13⟩) (k2 := ⟨cls .f32 a20, cls .f32 a21, cls .f32 a22, cls .f32 a23⟩) (k3 := ⟨cls .f32 a30, cls .f32 a31, cls .f32 a32, cls .f32 a33⟩) (k4 := cls .f32 a4) ⟨Fv.self w00, Fv.self w01, Fv.self w02, Fv.self w03⟩ ⟨Fv.self w10, Fv.self w11, Fv.self w12, Fv.self w13⟩ ⟨Fv.self w20, Fv.self w21, Fv.self w22, Fv.self w23⟩ ⟨Fv.self w30, Fv.self w31, Fv.self w32, Fv.self w33⟩ (Fv.self w4) w

end Go.Proofs.Ytpfijbgkhekjfaa
