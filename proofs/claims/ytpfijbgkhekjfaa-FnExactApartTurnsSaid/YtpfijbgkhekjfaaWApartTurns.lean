/-
  The walks of the statements on vectors and turns: ApartTurns. No condition but that the words fit their kinds.
-/
import Derived.Test.YtpfijbgkhekjfaaVy
set_option linter.unusedVariables false
namespace Go.Proofs.Ytpfijbgkhekjfaa
open Go.RowKit Go.Proofs.Ytpfijbgkhekjfaa.Fl

set_option maxHeartbeats 2000000 in
set_option maxRecDepth 10000 in
theorem core_ApartTurns {a00 a01 a02 a03 a10 a11 a12 a13 : Nat} {k0 : V4} {k1 : V4} (h0 : Fv4 a00 a01 a02 a03 k0) (h1 : Fv4 a10 a11 a12 a13 k1) (w : World) :
    Calls Try.prog 8 #[turn a00 a01 a02 a03, turn a10 a11 a12 a13] w (RetB true w) := by
  go_enter Try.func8, Try.ntmps8
  go_wp2_with fail
  refine wp_name (fun W => Has4 W w.heap.size a00 a01 a02 a03 ∧ Has4 W (w.heap.size + 1) a10 a11 a12 a13 ∧ Below w.heap.size w W) ⟨⟨by simp, by simp, by simp, by simp⟩, ⟨by simp, by simp, by simp, by simp⟩, by (repeat (first | exact Below.refl _ _ | (refine below_drewN ?_ _) | (refine Below.drew ?_) | (refine Below.setCell ?_ (by first | omega | (simp; try omega)) _) | (refine Below.alloc ?_ (by first | omega | (simp; try omega)) _) | (refine Below.trans ?_ (Below.mono (by assumption) (by first | omega | (simp; try omega))))))⟩ ?_
  rintro W ⟨hp0, hp1, hbel⟩
  have L0 := hp0.lt
  have L1 := hp1.lt
  refine wp_region_drawn [(7, isV (turn a00 a01 a02 a03)), (8, isTurn k0), (9, isV (turn a10 a11 a12 a13)), (10, isTurn k1), (11, isFlt .f32 (apartC k0 k1))]
    (fun wr => Has4 wr w.heap.size a00 a01 a02 a03 ∧ Has4 wr (w.heap.size + 1) a10 a11 a12 a13 ∧ Below W.heap.size W wr)
    (by kernel_rfl) (by kernel_rfl) (by kernel_rfl) (by kernel_rfl) (Nat.le_of_ble_eq_true (by kernel_rfl)) (by kernel_rfl) ?_ (fun _ _ hb h => ⟨h.1.below hb, h.2.1.below hb, h.2.2.trans (hb.mono h.2.2.size)⟩) ⟨hp0, hp1, (Below.refl _ _).drew⟩ ?_ ?_
  · intro p hp
    simp only [List.mem_cons, List.not_mem_nil, or_false] at hp
    rcases hp with rfl | rfl | rfl | rfl | rfl <;> first | exact mono_isV _ | exact mono_isVec _ | exact mono_isTurn _ | exact mono_isFlt _ _ | exact mono_isOwn3 _ | exact mono_isOwn4 _
  · intro i o hi ho f w1 hI hdep
    simp only [List.map_cons, List.map_nil, mix, List.contains_cons, List.contains_nil, Nat.reduceBEq, Bool.or_true, Bool.or_false, Bool.false_eq_true, if_true, if_false, Nat.reduceAdd, Nat.zero_add]
    have hcase : i = 0 ∨ i = 1 ∨ i = 2 ∨ i = 3 ∨ i = 4 := by simp at hi; omega
    obtain ⟨⟨c00, c01, c02, c03⟩, ⟨c10, c11, c12, c13⟩, hb1⟩ := hI
    have hsz := hb1.size
    rcases hcase with rfl | rfl | rfl | rfl | rfl
    · obtain rfl := Option.some.inj ho
      clear hdep ho hi
      generalize f 7 = v7 at *; generalize f 8 = v8 at *; generalize f 9 = v9 at *; generalize f 10 = v10 at *; generalize f 11 = v11 at *
      refine wpOp_step rfl (fun K hK => ?_)
      go_simp
      exact hK _ _ ⟨_, rfl, (fun p hp => by cases hp; rfl), Below.refl _ _⟩
    · obtain rfl := Option.some.inj ho
      have e0 : f 7 = (turn a00 a01 a02 a03) := hdep ⟨0, .data⟩ (by simp) rfl
      clear hdep ho hi
      generalize f 7 = v7 at *; generalize f 8 = v8 at *; generalize f 9 = v9 at *; generalize f 10 = v10 at *; generalize f 11 = v11 at *
      subst e0
      refine wpOp_step rfl (fun K hK => ?_)
      go_simp
      refine (toTurn_any (by assumption) _).mono ?_
      rintro e w' ⟨⟨p2, x2, y2, z2, rfl, hv⟩, hb⟩
      exact hK _ _ ⟨_, rfl, (fun p hp => by cases hp; exact ⟨_, _, _, _, rfl, hv⟩), hb⟩
    · obtain rfl := Option.some.inj ho
      clear hdep ho hi
      generalize f 7 = v7 at *; generalize f 8 = v8 at *; generalize f 9 = v9 at *; generalize f 10 = v10 at *; generalize f 11 = v11 at *
      refine wpOp_step rfl (fun K hK => ?_)
      go_simp
      exact hK _ _ ⟨_, rfl, (fun p hp => by cases hp; rfl), Below.refl _ _⟩
    · obtain rfl := Option.some.inj ho
      have e2 : f 9 = (turn a10 a11 a12 a13) := hdep ⟨2, .data⟩ (by simp) rfl
      clear hdep ho hi
      generalize f 7 = v7 at *; generalize f 8 = v8 at *; generalize f 9 = v9 at *; generalize f 10 = v10 at *; generalize f 11 = v11 at *
      subst e2
      refine wpOp_step rfl (fun K hK => ?_)
      go_simp
      refine (toTurn_any (by assumption) _).mono ?_
      rintro e w' ⟨⟨p2, x2, y2, z2, rfl, hv⟩, hb⟩
      exact hK _ _ ⟨_, rfl, (fun p hp => by cases hp; exact ⟨_, _, _, _, rfl, hv⟩), hb⟩
    · obtain rfl := Option.some.inj ho
      obtain ⟨p1, x1, y1, z1, e1, hv1⟩ : isTurn _ (f 8) w1 := hdep ⟨1, .data⟩ (by simp) rfl
      obtain ⟨p3, x3, y3, z3, e3, hv3⟩ : isTurn _ (f 10) w1 := hdep ⟨3, .data⟩ (by simp) rfl
      clear hdep ho hi
      generalize f 7 = v7 at *; generalize f 8 = v8 at *; generalize f 9 = v9 at *; generalize f 10 = v10 at *; generalize f 11 = v11 at *
      subst e1 e3
      refine wpOp_step rfl (fun K hK => ?_)
      go_simp
      refine (c_spec_ApartTurns (by assumption) (by assumption) _).mono ?_
      rintro e w' ⟨⟨r2, rfl, hv⟩, hb⟩
      exact hK _ _ ⟨_, rfl, (fun p hp => by cases hp; exact ⟨_, rfl, hv⟩), hb⟩
  · intro f w1 hI hF
    simp only [List.map_cons, List.map_nil, mix, List.contains_cons, List.contains_nil, Nat.reduceBEq, Bool.or_true, Bool.or_false, Bool.false_eq_true, if_true, if_false, Nat.reduceAdd, Nat.zero_add]
    obtain ⟨hp0, hp1, hb1⟩ := hI
    have hsz := hb1.size
    obtain ⟨rw, ec, hvw⟩ : isFlt _ _ (f 11) w1 := hF 4 (by simp)
    clear hF
    generalize f 7 = v7 at *; generalize f 8 = v8 at *; generalize f 9 = v9 at *; generalize f 10 = v10 at *; generalize f 11 = v11 at *
    subst ec
    change wpAny _ _ _ _ (0 + 1) _ _ _
    refine wpAny_all (rs := [5]) (by kernel_rfl) (by simp) ?_
    intro i hi
    obtain rfl : i = 5 := by simpa using hi
    clear hi
    refine wpOp_step rfl (fun K hK => ?_)
    go_simp
    refine hK _ _ (wpAny_done (by kernel_rfl) ?_ _)
    clear hK K
    go_wp2_with fail
    refine wp_name (fun wr => Has4 wr w.heap.size a00 a01 a02 a03 ∧ Has4 wr (w.heap.size + 1) a10 a11 a12 a13 ∧ Below W.heap.size W wr) ⟨hp0, hp1, by (repeat (first | exact Below.refl _ _ | (refine below_drewN ?_ _) | (refine Below.drew ?_) | (refine Below.setCell ?_ (by first | omega | (simp; try omega)) _) | (refine Below.alloc ?_ (by first | omega | (simp; try omega)) _) | (refine Below.trans ?_ (Below.mono (by assumption) (by first | omega | (simp; try omega))))))⟩ ?_
    clear hp0 hp1
    rintro W2 ⟨hp0, hp1, hbel2⟩
    have LL0 := hp0.lt
    have LL1 := hp1.lt
    clear hb1 hsz
    refine wp_region_drawn [(12, isV (turn a00 a01 a02 a03)), (13, isTurn k0), (14, isV (turn a10 a11 a12 a13)), (15, isTurn k1), (16, isFlt .f32 (apartC k0 k1))]
      (fun wr => Has4 wr w.heap.size a00 a01 a02 a03 ∧ Has4 wr (w.heap.size + 1) a10 a11 a12 a13 ∧ Below W2.heap.size W2 wr)
      (by kernel_rfl) (by kernel_rfl) (by kernel_rfl) (by kernel_rfl) (Nat.le_of_ble_eq_true (by kernel_rfl)) (by kernel_rfl) ?_ (fun _ _ hb h => ⟨h.1.below hb, h.2.1.below hb, h.2.2.trans (hb.mono h.2.2.size)⟩) ⟨hp0, hp1, (Below.refl _ _).drew⟩ ?_ ?_
    · intro p hp
      simp only [List.mem_cons, List.not_mem_nil, or_false] at hp
      rcases hp with rfl | rfl | rfl | rfl | rfl <;> first | exact mono_isV _ | exact mono_isVec _ | exact mono_isTurn _ | exact mono_isFlt _ _ | exact mono_isOwn3 _ | exact mono_isOwn4 _
    · intro i o hi ho f w1 hI hdep
      simp only [List.map_cons, List.map_nil, mix, List.contains_cons, List.contains_nil, Nat.reduceBEq, Bool.or_true, Bool.or_false, Bool.false_eq_true, if_true, if_false, Nat.reduceAdd, Nat.zero_add]
      have hcase : i = 0 ∨ i = 1 ∨ i = 2 ∨ i = 3 ∨ i = 4 := by simp at hi; omega
      obtain ⟨⟨c00, c01, c02, c03⟩, ⟨c10, c11, c12, c13⟩, hb1⟩ := hI
      have hsz := hb1.size
      rcases hcase with rfl | rfl | rfl | rfl | rfl
      · obtain rfl := Option.some.inj ho
        clear hdep ho hi
        generalize f 12 = v12 at *; generalize f 13 = v13 at *; generalize f 14 = v14 at *; generalize f 15 = v15 at *; generalize f 16 = v16 at *
        refine wpOp_step rfl (fun K hK => ?_)
        go_simp
        exact hK _ _ ⟨_, rfl, (fun p hp => by cases hp; rfl), Below.refl _ _⟩
      · obtain rfl := Option.some.inj ho
        have e0 : f 12 = (turn a00 a01 a02 a03) := hdep ⟨0, .data⟩ (by simp) rfl
        clear hdep ho hi
        generalize f 12 = v12 at *; generalize f 13 = v13 at *; generalize f 14 = v14 at *; generalize f 15 = v15 at *; generalize f 16 = v16 at *
        subst e0
        refine wpOp_step rfl (fun K hK => ?_)
        go_simp
        refine (toTurn_any (by assumption) _).mono ?_
        rintro e w' ⟨⟨p2, x2, y2, z2, rfl, hv⟩, hb⟩
        exact hK _ _ ⟨_, rfl, (fun p hp => by cases hp; exact ⟨_, _, _, _, rfl, hv⟩), hb⟩
      · obtain rfl := Option.some.inj ho
        clear hdep ho hi
        generalize f 12 = v12 at *; generalize f 13 = v13 at *; generalize f 14 = v14 at *; generalize f 15 = v15 at *; generalize f 16 = v16 at *
        refine wpOp_step rfl (fun K hK => ?_)
        go_simp
        exact hK _ _ ⟨_, rfl, (fun p hp => by cases hp; rfl), Below.refl _ _⟩
      · obtain rfl := Option.some.inj ho
        have e2 : f 14 = (turn a10 a11 a12 a13) := hdep ⟨2, .data⟩ (by simp) rfl
        clear hdep ho hi
        generalize f 12 = v12 at *; generalize f 13 = v13 at *; generalize f 14 = v14 at *; generalize f 15 = v15 at *; generalize f 16 = v16 at *
        subst e2
        refine wpOp_step rfl (fun K hK => ?_)
        go_simp
        refine (toTurn_any (by assumption) _).mono ?_
        rintro e w' ⟨⟨p2, x2, y2, z2, rfl, hv⟩, hb⟩
        exact hK _ _ ⟨_, rfl, (fun p hp => by cases hp; exact ⟨_, _, _, _, rfl, hv⟩), hb⟩
      · obtain rfl := Option.some.inj ho
        obtain ⟨p1, x1, y1, z1, e1, hv1⟩ : isTurn _ (f 13) w1 := hdep ⟨1, .data⟩ (by simp) rfl
        obtain ⟨p3, x3, y3, z3, e3, hv3⟩ : isTurn _ (f 15) w1 := hdep ⟨3, .data⟩ (by simp) rfl
        clear hdep ho hi
        generalize f 12 = v12 at *; generalize f 13 = v13 at *; generalize f 14 = v14 at *; generalize f 15 = v15 at *; generalize f 16 = v16 at *
        subst e1 e3
        refine wpOp_step rfl (fun K hK => ?_)
        go_simp
        refine (c_impl_ApartTurns (by assumption) (by assumption) _).mono ?_
        rintro e w' ⟨⟨r2, rfl, hv⟩, hb⟩
        exact hK _ _ ⟨_, rfl, (fun p hp => by cases hp; exact ⟨_, rfl, hv⟩), hb⟩
    · intro f w1 hI hF
      simp only [List.map_cons, List.map_nil, mix, List.contains_cons, List.contains_nil, Nat.reduceBEq, Bool.or_true, Bool.or_false, Bool.false_eq_true, if_true, if_false, Nat.reduceAdd, Nat.zero_add]
      obtain ⟨hp0, hp1, hb1⟩ := hI
      have hsz := hb1.size
      obtain ⟨rg, ec, hvg⟩ : isFlt _ _ (f 16) w1 := hF 4 (by simp)
      clear hF
      generalize f 12 = v12 at *; generalize f 13 = v13 at *; generalize f 14 = v14 at *; generalize f 15 = v15 at *; generalize f 16 = v16 at *
      subst ec
      change wpAny _ _ _ _ (0 + 1) _ _ _
      refine wpAny_all (rs := [5]) (by kernel_rfl) (by simp) ?_
      intro i hi
      obtain rfl : i = 5 := by simpa using hi
      clear hi
      refine wpOp_step rfl (fun K hK => ?_)
      go_simp
      refine hK _ _ (wpAny_done (by kernel_rfl) ?_ _)
      clear hK K
      skip
      have hbA := hbel.trans (hbel2.mono hbel.size)
      have hbB := hbA.trans (hb1.mono hbA.size)
      go_wp2_with (first | ((with_reducible apply upon_float_conv); exact f32some; exact Try.underlying44; assumption; exact fits_widen (by assumption); intro r n hr; (try rw [World.drewN_drewN]); simp only [Act.put, List.setIfInBounds_toArray, List.set_cons_zero, List.set_cons_succ]) | (go_at_call 23; refine (sameFloat_b (by assumption) (by assumption) _).mono ?_; rintro e w' ⟨rfl, m, rfl⟩))
      go_ret
      exact ⟨rfl, below_drewN hbB _⟩

theorem walk_ApartTurns (a00 : Nat) (w00 : a00 < 2 ^ FloatKind.f32.format.width) (a01 : Nat) (w01 : a01 < 2 ^ FloatKind.f32.format.width) (a02 : Nat) (w02 : a02 < 2 ^ FloatKind.f32.format.width) (a03 : Nat) (w03 : a03 < 2 ^ FloatKind.f32.format.width) (a10 : Nat) (w10 : a10 < 2 ^ FloatKind.f32.format.width) (a11 : Nat) (w11 : a11 < 2 ^ FloatKind.f32.format.width) (a12 : Nat) (w12 : a12 < 2 ^ FloatKind.f32.format.width) (a13 : Nat) (w13 : a13 < 2 ^ FloatKind.f32.format.width) (w : World) :
    Calls Try.prog 8 #[turn a00 a01 a02 a03, turn a10 a11 a12 a13] w (RetB true w) :=
  core_ApartTurns (k0 := ⟨cls .f32 a00, cls .f32 a01, cls .f32 a02, cls .f32 a03⟩) (k1 := ⟨cls .f32 a10, cls .f32 a11, cls .f32 a12, cls .f32 a13⟩) ⟨Fv.self w00, Fv.self w01, Fv.self w02, Fv.self w03⟩ ⟨Fv.self w10, Fv.self w11, Fv.self w12, Fv.self w13⟩ w

end Go.Proofs.Ytpfijbgkhekjfaa
