/-
  The walks of the statements on vectors and turns: TurnBetween. No condition but that the words fit their kinds.
-/
import Derived.Test.YteefiihliepbgacVo
set_option linter.unusedVariables false
namespace Go.Proofs.Yteefiihliepbgac
open Go.RowKit Go.Proofs.Yteefiihliepbgac.Fl

set_option maxHeartbeats 2000000 in
set_option maxRecDepth 10000 in
theorem core_TurnBetween {a00 a01 a02 a10 a11 a12 : Nat} {k0 : V3} {k1 : V3} (h0 : Fv3 a00 a01 a02 k0) (h1 : Fv3 a10 a11 a12 k1) (w : World) :
    Calls Try.prog 7 #[vec a00 a01 a02, vec a10 a11 a12] w (RetB true w) := by
  go_enter Try.func7, Try.ntmps7
  go_wp2_with fail
  refine wp_name (fun W => Has3 W w.heap.size a00 a01 a02 ∧ Has3 W (w.heap.size + 1) a10 a11 a12 ∧ Below w.heap.size w W) ⟨⟨by simp, by simp, by simp⟩, ⟨by simp, by simp, by simp⟩, by (repeat (first | exact Below.refl _ _ | (refine below_drewN ?_ _) | (refine Below.drew ?_) | (refine Below.setCell ?_ (by first | omega | (simp; try omega)) _) | (refine Below.alloc ?_ (by first | omega | (simp; try omega)) _) | (refine Below.trans ?_ (Below.mono (by assumption) (by first | omega | (simp; try omega))))))⟩ ?_
  rintro W ⟨hp0, hp1, hbel⟩
  have L0 := hp0.lt
  have L1 := hp1.lt
  refine wp_region_drawn [(7, isV (vec a00 a01 a02)), (8, isVec k0), (9, isV (vec a10 a11 a12)), (10, isVec k1), (11, isTurn (tbC k0 k1)), (5, isOwn4 W.heap.size)]
    (fun wr => Has3 wr w.heap.size a00 a01 a02 ∧ Has3 wr (w.heap.size + 1) a10 a11 a12 ∧ Below W.heap.size W wr)
    (by kernel_rfl) (by kernel_rfl) (by kernel_rfl) (by kernel_rfl) (Nat.le_of_ble_eq_true (by kernel_rfl)) (by kernel_rfl) ?_ (fun _ _ hb h => ⟨h.1.below hb, h.2.1.below hb, h.2.2.trans (hb.mono h.2.2.size)⟩) ⟨hp0, hp1, (Below.refl _ _).drew⟩ ?_ ?_
  · intro p hp
    simp only [List.mem_cons, List.not_mem_nil, or_false] at hp
    rcases hp with rfl | rfl | rfl | rfl | rfl | rfl <;> first | exact mono_isV _ | exact mono_isVec _ | exact mono_isTurn _ | exact mono_isFlt _ _ | exact mono_isOwn3 _ | exact mono_isOwn4 _
  · intro i o hi ho f w1 hI hdep
    simp only [List.map_cons, List.map_nil, mix, List.contains_cons, List.contains_nil, Nat.reduceBEq, Bool.or_true, Bool.or_false, Bool.false_eq_true, if_true, if_false, Nat.reduceAdd, Nat.zero_add]
    have hcase : i = 0 ∨ i = 1 ∨ i = 2 ∨ i = 3 ∨ i = 4 ∨ i = 5 := by simp at hi; omega
    obtain ⟨⟨c00, c01, c02⟩, ⟨c10, c11, c12⟩, hb1⟩ := hI
    have hsz := hb1.size
    rcases hcase with rfl | rfl | rfl | rfl | rfl | rfl
    · obtain rfl := Option.some.inj ho
      clear hdep ho hi
      generalize f 5 = v5 at *; generalize f 7 = v7 at *; generalize f 8 = v8 at *; generalize f 9 = v9 at *; generalize f 10 = v10 at *; generalize f 11 = v11 at *
      refine wpOp_step rfl (fun K hK => ?_)
      go_simp
      exact hK _ _ ⟨_, rfl, (fun p hp => by cases hp; rfl), Below.refl _ _⟩
    · obtain rfl := Option.some.inj ho
      have e0 : f 7 = (vec a00 a01 a02) := hdep ⟨0, .data⟩ (by simp) rfl
      clear hdep ho hi
      generalize f 5 = v5 at *; generalize f 7 = v7 at *; generalize f 8 = v8 at *; generalize f 9 = v9 at *; generalize f 10 = v10 at *; generalize f 11 = v11 at *
      subst e0
      refine wpOp_step rfl (fun K hK => ?_)
      go_simp
      refine (toVector_any (by assumption) _).mono ?_
      rintro e w' ⟨⟨x2, y2, z2, rfl, hv⟩, hb⟩
      exact hK _ _ ⟨_, rfl, (fun p hp => by cases hp; exact ⟨_, _, _, rfl, hv⟩), hb⟩
    · obtain rfl := Option.some.inj ho
      clear hdep ho hi
      generalize f 5 = v5 at *; generalize f 7 = v7 at *; generalize f 8 = v8 at *; generalize f 9 = v9 at *; generalize f 10 = v10 at *; generalize f 11 = v11 at *
      refine wpOp_step rfl (fun K hK => ?_)
      go_simp
      exact hK _ _ ⟨_, rfl, (fun p hp => by cases hp; rfl), Below.refl _ _⟩
    · obtain rfl := Option.some.inj ho
      have e2 : f 9 = (vec a10 a11 a12) := hdep ⟨2, .data⟩ (by simp) rfl
      clear hdep ho hi
      generalize f 5 = v5 at *; generalize f 7 = v7 at *; generalize f 8 = v8 at *; generalize f 9 = v9 at *; generalize f 10 = v10 at *; generalize f 11 = v11 at *
      subst e2
      refine wpOp_step rfl (fun K hK => ?_)
      go_simp
      refine (toVector_any (by assumption) _).mono ?_
      rintro e w' ⟨⟨x2, y2, z2, rfl, hv⟩, hb⟩
      exact hK _ _ ⟨_, rfl, (fun p hp => by cases hp; exact ⟨_, _, _, rfl, hv⟩), hb⟩
    · obtain rfl := Option.some.inj ho
      obtain ⟨x1, y1, z1, e1, hv1⟩ : isVec _ (f 8) w1 := hdep ⟨1, .data⟩ (by simp) rfl
      obtain ⟨x3, y3, z3, e3, hv3⟩ : isVec _ (f 10) w1 := hdep ⟨3, .data⟩ (by simp) rfl
      clear hdep ho hi
      generalize f 5 = v5 at *; generalize f 7 = v7 at *; generalize f 8 = v8 at *; generalize f 9 = v9 at *; generalize f 10 = v10 at *; generalize f 11 = v11 at *
      subst e1 e3
      refine wpOp_step rfl (fun K hK => ?_)
      go_simp
      refine (c_spec_TurnBetween (by assumption) (by assumption) _).mono ?_
      rintro e w' ⟨⟨p2, x2, y2, z2, rfl, hv⟩, hb⟩
      exact hK _ _ ⟨_, rfl, (fun p hp => by cases hp; exact ⟨_, _, _, _, rfl, hv⟩), hb⟩
    · obtain rfl := Option.some.inj ho
      clear hdep ho hi
      generalize f 5 = v5 at *; generalize f 7 = v7 at *; generalize f 8 = v8 at *; generalize f 9 = v9 at *; generalize f 10 = v10 at *; generalize f 11 = v11 at *
      refine wpOp_step rfl (fun K hK => ?_)
      go_simp
      exact hK _ _ ⟨_, rfl, (fun p hp => by cases hp; exact ⟨_, rfl, own4_new _ _ hsz _ _ _ _ _⟩), (Below.refl _ _).alloc (Nat.le_refl _) _⟩
  · intro f w1 hI hF
    simp only [List.map_cons, List.map_nil, mix, List.contains_cons, List.contains_nil, Nat.reduceBEq, Bool.or_true, Bool.or_false, Bool.false_eq_true, if_true, if_false, Nat.reduceAdd, Nat.zero_add]
    obtain ⟨hp0, hp1, hb1⟩ := hI
    have hsz := hb1.size
    obtain ⟨pw, xw, yw, zw, ec, hvw⟩ : isTurn _ (f 11) w1 := hF 4 (by simp)
    obtain ⟨wb, ea, hg1, ⟨q0, q1, q2, q3, hg2⟩, hg3⟩ : isOwn4 _ (f 5) w1 := hF 5 (by simp)
    have hg4 := hg2.lt
    have hm := hg2.made pw xw yw zw
    have hg5 := hg2
    obtain ⟨d0, d1, d2, d3⟩ := hg5
    clear hF
    generalize f 5 = v5 at *; generalize f 7 = v7 at *; generalize f 8 = v8 at *; generalize f 9 = v9 at *; generalize f 10 = v10 at *; generalize f 11 = v11 at *
    subst ec ea
    change wpAny _ _ _ _ (0 + 1) _ _ _
    refine wpAny_all (rs := [6]) (by kernel_rfl) (by simp) ?_
    intro i hi
    obtain rfl : i = 6 := by simpa using hi
    clear hi
    refine wpOp_step rfl (fun K hK => ?_)
    go_simp
    refine hK _ _ (wpAny_done (by kernel_rfl) ?_ _)
    clear hK K
    go_wp2_with fail
    refine wp_name (fun wr => Has3 wr w.heap.size a00 a01 a02 ∧ Has3 wr (w.heap.size + 1) a10 a11 a12 ∧ Has4 wr wb pw xw yw zw ∧ Below W.heap.size W wr) ⟨((((hp0.set _ _ (by simp; omega)).set _ _ (by simp; omega)).set _ _ (by simp; omega)).set _ _ (by simp; omega)), ((((hp1.set _ _ (by simp; omega)).set _ _ (by simp; omega)).set _ _ (by simp; omega)).set _ _ (by simp; omega)), hm, by (repeat (first | exact Below.refl _ _ | (refine below_drewN ?_ _) | (refine Below.drew ?_) | (refine Below.setCell ?_ (by first | omega | (simp; try omega)) _) | (refine Below.alloc ?_ (by first | omega | (simp; try omega)) _) | (refine Below.trans ?_ (Below.mono (by assumption) (by first | omega | (simp; try omega))))))⟩ ?_
    clear hp0 hp1 hm
    rintro W2 ⟨hp0, hp1, hw, hbel2⟩
    have LL0 := hp0.lt
    have LL1 := hp1.lt
    have LL2 := hw.lt
    clear hb1 hsz hg1 hg2 hg3 hg4 d0 d1 d2 d3
    refine wp_region_drawn [(12, isV (vec a00 a01 a02)), (13, isVec k0), (14, isV (vec a10 a11 a12)), (15, isVec k1), (16, isTurn (tbC k0 k1)), (6, isOwn4 W2.heap.size)]
      (fun wr => Has3 wr w.heap.size a00 a01 a02 ∧ Has3 wr (w.heap.size + 1) a10 a11 a12 ∧ Has4 wr wb pw xw yw zw ∧ Below W2.heap.size W2 wr)
      (by kernel_rfl) (by kernel_rfl) (by kernel_rfl) (by kernel_rfl) (Nat.le_of_ble_eq_true (by kernel_rfl)) (by kernel_rfl) ?_ (fun _ _ hb h => ⟨h.1.below hb, h.2.1.below hb, h.2.2.1.below hb, h.2.2.2.trans (hb.mono h.2.2.2.size)⟩) ⟨hp0, hp1, hw, (Below.refl _ _).drew⟩ ?_ ?_
    · intro p hp
      simp only [List.mem_cons, List.not_mem_nil, or_false] at hp
      rcases hp with rfl | rfl | rfl | rfl | rfl | rfl <;> first | exact mono_isV _ | exact mono_isVec _ | exact mono_isTurn _ | exact mono_isFlt _ _ | exact mono_isOwn3 _ | exact mono_isOwn4 _
    · intro i o hi ho f w1 hI hdep
      simp only [List.map_cons, List.map_nil, mix, List.contains_cons, List.contains_nil, Nat.reduceBEq, Bool.or_true, Bool.or_false, Bool.false_eq_true, if_true, if_false, Nat.reduceAdd, Nat.zero_add]
      have hcase : i = 0 ∨ i = 1 ∨ i = 2 ∨ i = 3 ∨ i = 4 ∨ i = 5 := by simp at hi; omega
      obtain ⟨⟨c00, c01, c02⟩, ⟨c10, c11, c12⟩, ⟨c20, c21, c22, c23⟩, hb1⟩ := hI
      have hsz := hb1.size
      rcases hcase with rfl | rfl | rfl | rfl | rfl | rfl
      · obtain rfl := Option.some.inj ho
        clear hdep ho hi
        generalize f 6 = v6 at *; generalize f 12 = v12 at *; generalize f 13 = v13 at *; generalize f 14 = v14 at *; generalize f 15 = v15 at *; generalize f 16 = v16 at *
        refine wpOp_step rfl (fun K hK => ?_)
        go_simp
        exact hK _ _ ⟨_, rfl, (fun p hp => by cases hp; rfl), Below.refl _ _⟩
      · obtain rfl := Option.some.inj ho
        have e0 : f 12 = (vec a00 a01 a02) := hdep ⟨0, .data⟩ (by simp) rfl
        clear hdep ho hi
        generalize f 6 = v6 at *; generalize f 12 = v12 at *; generalize f 13 = v13 at *; generalize f 14 = v14 at *; generalize f 15 = v15 at *; generalize f 16 = v16 at *
        subst e0
        refine wpOp_step rfl (fun K hK => ?_)
        go_simp
        refine (toVector_any (by assumption) _).mono ?_
        rintro e w' ⟨⟨x2, y2, z2, rfl, hv⟩, hb⟩
        exact hK _ _ ⟨_, rfl, (fun p hp => by cases hp; exact ⟨_, _, _, rfl, hv⟩), hb⟩
      · obtain rfl := Option.some.inj ho
        clear hdep ho hi
        generalize f 6 = v6 at *; generalize f 12 = v12 at *; generalize f 13 = v13 at *; generalize f 14 = v14 at *; generalize f 15 = v15 at *; generalize f 16 = v16 at *
        refine wpOp_step rfl (fun K hK => ?_)
        go_simp
        exact hK _ _ ⟨_, rfl, (fun p hp => by cases hp; rfl), Below.refl _ _⟩
      · obtain rfl := Option.some.inj ho
        have e2 : f 14 = (vec a10 a11 a12) := hdep ⟨2, .data⟩ (by simp) rfl
        clear hdep ho hi
        generalize f 6 = v6 at *; generalize f 12 = v12 at *; generalize f 13 = v13 at *; generalize f 14 = v14 at *; generalize f 15 = v15 at *; generalize f 16 = v16 at *
        subst e2
        refine wpOp_step rfl (fun K hK => ?_)
        go_simp
        refine (toVector_any (by assumption) _).mono ?_
        rintro e w' ⟨⟨x2, y2, z2, rfl, hv⟩, hb⟩
        exact hK _ _ ⟨_, rfl, (fun p hp => by cases hp; exact ⟨_, _, _, rfl, hv⟩), hb⟩
      · obtain rfl := Option.some.inj ho
        obtain ⟨x1, y1, z1, e1, hv1⟩ : isVec _ (f 13) w1 := hdep ⟨1, .data⟩ (by simp) rfl
        obtain ⟨x3, y3, z3, e3, hv3⟩ : isVec _ (f 15) w1 := hdep ⟨3, .data⟩ (by simp) rfl
        clear hdep ho hi
        generalize f 6 = v6 at *; generalize f 12 = v12 at *; generalize f 13 = v13 at *; generalize f 14 = v14 at *; generalize f 15 = v15 at *; generalize f 16 = v16 at *
        subst e1 e3
        refine wpOp_step rfl (fun K hK => ?_)
        go_simp
        refine (c_impl_TurnBetween (by assumption) (by assumption) _).mono ?_
        rintro e w' ⟨⟨p2, x2, y2, z2, rfl, hv⟩, hb⟩
        exact hK _ _ ⟨_, rfl, (fun p hp => by cases hp; exact ⟨_, _, _, _, rfl, hv⟩), hb⟩
      · obtain rfl := Option.some.inj ho
        clear hdep ho hi
        generalize f 6 = v6 at *; generalize f 12 = v12 at *; generalize f 13 = v13 at *; generalize f 14 = v14 at *; generalize f 15 = v15 at *; generalize f 16 = v16 at *
        refine wpOp_step rfl (fun K hK => ?_)
        go_simp
        exact hK _ _ ⟨_, rfl, (fun p hp => by cases hp; exact ⟨_, rfl, own4_new _ _ hsz _ _ _ _ _⟩), (Below.refl _ _).alloc (Nat.le_refl _) _⟩
    · intro f w1 hI hF
      simp only [List.map_cons, List.map_nil, mix, List.contains_cons, List.contains_nil, Nat.reduceBEq, Bool.or_true, Bool.or_false, Bool.false_eq_true, if_true, if_false, Nat.reduceAdd, Nat.zero_add]
      obtain ⟨hp0, hp1, hw, hb1⟩ := hI
      have hsz := hb1.size
      obtain ⟨pg, xg, yg, zg, ec, hvg⟩ : isTurn _ (f 16) w1 := hF 4 (by simp)
      obtain ⟨gb, ea, hg1, ⟨q0, q1, q2, q3, hg2⟩, hg3⟩ : isOwn4 _ (f 6) w1 := hF 5 (by simp)
      have hg4 := hg2.lt
      have hm := hg2.made pg xg yg zg
      have hg5 := hg2
      obtain ⟨d0, d1, d2, d3⟩ := hg5
      clear hF
      generalize f 6 = v6 at *; generalize f 12 = v12 at *; generalize f 13 = v13 at *; generalize f 14 = v14 at *; generalize f 15 = v15 at *; generalize f 16 = v16 at *
      subst ec ea
      change wpAny _ _ _ _ (0 + 1) _ _ _
      refine wpAny_all (rs := [6]) (by kernel_rfl) (by simp) ?_
      intro i hi
      obtain rfl : i = 6 := by simpa using hi
      clear hi
      refine wpOp_step rfl (fun K hK => ?_)
      go_simp
      refine hK _ _ (wpAny_done (by kernel_rfl) ?_ _)
      clear hK K
      skip
      have hbA := hbel.trans (hbel2.mono hbel.size)
      have hbB := hbA.trans (hb1.mono hbA.size)
      have hw2 := ((((hw.set ⟨gb, 0, none⟩ (.float .f32 pg) (by simp; omega)).set ⟨gb, 1, none⟩ (.float .f32 xg) (by simp; omega)).set ⟨gb, 2, none⟩ (.float .f32 yg) (by simp; omega)).set ⟨gb, 3, none⟩ (.float .f32 zg) (by simp; omega))
      obtain ⟨u0, u1, u2, u3⟩ := hw2
      obtain ⟨m0, m1, m2, m3⟩ := hm
      have hbC : Below w.heap.size w _ := ((((hbB.setCell (p := ⟨gb, 0, none⟩) (by have := hbA.size; simp; omega) (.float .f32 pg)).setCell (p := ⟨gb, 1, none⟩) (by have := hbA.size; simp; omega) (.float .f32 xg)).setCell (p := ⟨gb, 2, none⟩) (by have := hbA.size; simp; omega) (.float .f32 yg)).setCell (p := ⟨gb, 3, none⟩) (by have := hbA.size; simp; omega) (.float .f32 zg))
      go_wp2_with fail
      skip
      refine (eqTurn_any (by assumption) (by assumption) _).mono ?_
      rintro e w' ⟨rfl, hb⟩
      go_wp2_with fail
      go_ret
      exact ⟨rfl, hbC.trans (hb.mono hbC.size)⟩

theorem walk_TurnBetween (a00 : Nat) (w00 : a00 < 2 ^ FloatKind.f32.format.width) (a01 : Nat) (w01 : a01 < 2 ^ FloatKind.f32.format.width) (a02 : Nat) (w02 : a02 < 2 ^ FloatKind.f32.format.width) (a10 : Nat) (w10 : a10 < 2 ^ FloatKind.f32.format.width) (a11 : Nat) (w11 : a11 < 2 ^ FloatKind.f32.format.width) (a12 : Nat) (w12 : a12 < 2 ^ FloatKind.f32.format.width) (w : World) :
    Calls Try.prog 7 #[vec a00 a01 a02, vec a10 a11 a12] w (RetB true w) :=
  core_TurnBetween (k0 := ⟨cls .f32 a00, cls .f32 a01, cls .f32 a02⟩) (k1 := ⟨cls .f32 a10, cls .f32 a11, cls .f32 a12⟩) ⟨Fv.self w00, Fv.self w01, Fv.self w02⟩ ⟨Fv.self w10, Fv.self w11, Fv.self w12⟩ w

end Go.Proofs.Yteefiihliepbgac
