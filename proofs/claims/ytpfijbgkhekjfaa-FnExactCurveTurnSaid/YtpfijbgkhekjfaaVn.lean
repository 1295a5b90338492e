/-
  A turn between two turns. No condition.
-/
import Derived.Test.YtpfijbgkhekjfaaVt
set_option linter.unusedVariables false
namespace Go.Proofs.Ytpfijbgkhekjfaa
open Go.RowKit Go.Proofs.Ytpfijbgkhekjfaa.Fl

def stepC (a b s : Option Nat) : Option Nat := A a (M s (B b a))
def nearOf (a b : V4) (s : Option Nat) : V4 := mendC ⟨stepC a.w b.w s, stepC a.x b.x s, stepC a.y b.y s, stepC a.z b.z s⟩
def nearC (a b : V4) (s : Option Nat) : V4 := nearOf a (oppIf b (inner4C a b)) s

theorem c_impl_between {x y s : Nat} {a b c : Option Nat} (hx : Fv .f32 x a) (hy : Fv .f32 y b) (hs : Fv .f32 s c) (w : World) : Calls Try.prog 54 #[.float .f32 x, .float .f32 y, .float .f32 s] w (RetF .f32 (stepC a b c) w) := by
  go_enter Try.func54, Try.ntmps54
  go_wp2_with ((with_reducible apply upon_float_bin); exact rfl; (first | assumption | exact fvc rfl); (first | assumption | exact fvc rfl); intro r n hr; (try rw [World.drewN_drewN]); simp only [Act.put, List.setIfInBounds_toArray, List.set_cons_zero, List.set_cons_succ])
  go_ret; exact ⟨⟨_, rfl, by assumption⟩, by (repeat (first | exact Below.refl _ _ | (refine below_drewN ?_ _) | (refine Below.drew ?_) | (refine Below.setCell ?_ (by first | omega | (simp; try omega)) _) | (refine Below.alloc ?_ (by first | omega | (simp; try omega)) _) | (refine Below.trans ?_ (Below.mono (by assumption) (by first | omega | (simp; try omega))))))⟩

theorem c_spec_l02Step {x y s : Nat} {a b c : Option Nat} (hx : Fv .f32 x a) (hy : Fv .f32 y b) (hs : Fv .f32 s c) (w : World) : Calls Try.prog 51 #[.float .f32 x, .float .f32 y, .float .f32 s] w (RetF .f32 (stepC a b c) w) := by
  go_enter Try.func51, Try.ntmps51
  go_wp2_with ((with_reducible apply upon_float_bin); exact rfl; (first | assumption | exact fvc rfl); (first | assumption | exact fvc rfl); intro r n hr; (try rw [World.drewN_drewN]); simp only [Act.put, List.setIfInBounds_toArray, List.set_cons_zero, List.set_cons_succ])
  go_ret; exact ⟨⟨_, rfl, by assumption⟩, by (repeat (first | exact Below.refl _ _ | (refine below_drewN ?_ _) | (refine Below.drew ?_) | (refine Below.setCell ?_ (by first | omega | (simp; try omega)) _) | (refine Below.alloc ?_ (by first | omega | (simp; try omega)) _) | (refine Below.trans ?_ (Below.mono (by assumption) (by first | omega | (simp; try omega))))))⟩

set_option maxHeartbeats 4000000 in
set_option maxRecDepth 20000 in
theorem c_spec_l02Opposite {tw tx ty tz i : Nat} {Ct : V4} {Ci : Option Nat} (ht : Fv4 tw tx ty tz Ct) (hi : Fv .f32 i Ci) (w : World) : Calls Try.prog 48 #[turn tw tx ty tz, .float .f32 i] w (RetT (oppIf Ct Ci) w) := by
  cases q1 : ltB Ci with
  | false =>
    have hcls : oppIf Ct Ci = Ct := by unfold oppIf; simp [q1]
    rw [hcls]; clear hcls
    have hneg := neg_run
    go_enter Try.func48, Try.ntmps48
    go_upto_region 1 with fail
    refine wp_name (fun wr => HasF4 wr w.heap.size tw tx ty tz ∧ HasF4 wr (w.heap.size + 1) 0 0 0 0 ∧ Below w.heap.size w wr) ⟨⟨⟨by go_simp, by go_simp, by go_simp, by go_simp⟩, fun o => by go_simp⟩, ⟨⟨by go_simp, by go_simp, by go_simp, by go_simp⟩, fun o => by go_simp⟩, by (repeat (first | exact Below.refl _ _ | (refine below_drewN ?_ _) | (refine Below.drew ?_) | (refine Below.setCell ?_ (by first | omega | (simp; try omega)) _) | (refine Below.alloc ?_ (by first | omega | (simp; try omega)) _) | (refine Below.trans ?_ (Below.mono (by assumption) (by first | omega | (simp; try omega))))))⟩ ?_
    rintro W1 ⟨hp0, hp1, hbel⟩
    have LW1hp0 := hp0.lt; have LW1hp1 := hp1.lt; have SW1 := hbel.size
    have hq1 : (FloatKind.f32.format.order i 0 == some .lt) = false := by rw [order_fv hi (fvc rfl : Fv .f32 0 (some 0))]; exact q1
    obtain ⟨⟨c0_0, c0_1, c0_2, c0_3⟩, fz0⟩ := id hp0
    obtain ⟨⟨c1_0, c1_1, c1_2, c1_3⟩, fz1⟩ := id hp1
    go_upto_region 3 with fail
    clear c0_0 c0_1 c0_2 c0_3 c1_0 c1_1 c1_2 c1_3 fz0 fz1
    obtain ⟨⟨c0_0, c0_1, c0_2, c0_3⟩, fz0⟩ := id hp0
    obtain ⟨⟨c1_0, c1_1, c1_2, c1_3⟩, fz1⟩ := id hp1
    go_wp2_with fail
    apply ret_turn; exact ht.w; exact ht.x; exact ht.y; exact ht.z; simp [results, Try.results48, go_sem, *]; rfl; (repeat (first | exact Below.refl _ _ | (refine below_drewN ?_ _) | (refine Below.drew ?_) | (refine Below.setCell ?_ (by first | omega | (simp; try omega)) _) | (refine Below.alloc ?_ (by first | omega | (simp; try omega)) _) | (refine Below.trans ?_ (Below.mono (by assumption) (by first | omega | (simp; try omega))))))
  | true =>
    have hcls : oppIf Ct Ci = oppC Ct := by unfold oppIf; simp [q1]
    rw [hcls]; clear hcls
    have hneg := neg_run
    go_enter Try.func48, Try.ntmps48
    go_upto_region 1 with fail
    refine wp_name (fun wr => HasF4 wr w.heap.size tw tx ty tz ∧ HasF4 wr (w.heap.size + 1) 0 0 0 0 ∧ Below w.heap.size w wr) ⟨⟨⟨by go_simp, by go_simp, by go_simp, by go_simp⟩, fun o => by go_simp⟩, ⟨⟨by go_simp, by go_simp, by go_simp, by go_simp⟩, fun o => by go_simp⟩, by (repeat (first | exact Below.refl _ _ | (refine below_drewN ?_ _) | (refine Below.drew ?_) | (refine Below.setCell ?_ (by first | omega | (simp; try omega)) _) | (refine Below.alloc ?_ (by first | omega | (simp; try omega)) _) | (refine Below.trans ?_ (Below.mono (by assumption) (by first | omega | (simp; try omega))))))⟩ ?_
    rintro W1 ⟨hp0, hp1, hbel⟩
    have LW1hp0 := hp0.lt; have LW1hp1 := hp1.lt; have SW1 := hbel.size
    have hq1 : (FloatKind.f32.format.order i 0 == some .lt) = true := by rw [order_fv hi (fvc rfl : Fv .f32 0 (some 0))]; exact q1
    obtain ⟨⟨c0_0, c0_1, c0_2, c0_3⟩, fz0⟩ := id hp0
    obtain ⟨⟨c1_0, c1_1, c1_2, c1_3⟩, fz1⟩ := id hp1
    go_upto_region 2 with fail
    clear c0_0 c0_1 c0_2 c0_3 c1_0 c1_1 c1_2 c1_3 fz0 fz1
    obtain ⟨⟨c0_0, c0_1, c0_2, c0_3⟩, fz0⟩ := id hp0
    obtain ⟨⟨c1_0, c1_1, c1_2, c1_3⟩, fz1⟩ := id hp1
    go_wp2_with fail
    apply ret_turn; exact (Fv.neg ht.w); exact (Fv.neg ht.x); exact (Fv.neg ht.y); exact (Fv.neg ht.z); simp [results, Try.results48, go_sem, *]; rfl; (repeat (first | exact Below.refl _ _ | (refine below_drewN ?_ _) | (refine Below.drew ?_) | (refine Below.setCell ?_ (by first | omega | (simp; try omega)) _) | (refine Below.alloc ?_ (by first | omega | (simp; try omega)) _) | (refine Below.trans ?_ (Below.mono (by assumption) (by first | omega | (simp; try omega))))))

set_option maxHeartbeats 4000000 in
set_option maxRecDepth 20000 in
theorem c_impl_NearTurn {tw tx ty tz rw rx ry rz s : Nat} {Ct : V4} {Cr : V4} {Cs : Option Nat} (ht : Fv4 tw tx ty tz Ct) (hr : Fv4 rw rx ry rz Cr) (hs : Fv .f32 s Cs) (w : World) : Calls Try.prog 29 #[turn tw tx ty tz, turn rw rx ry rz, .float .f32 s] w (RetT (nearC Ct Cr Cs) w) := by
  cases q1 : ltB (inner4C Ct Cr) with
  | false =>
    have hcls : nearC Ct Cr Cs = nearOf Ct Cr Cs := by unfold nearC oppIf; simp [q1]
    rw [hcls]; clear hcls
    go_enter Try.func29, Try.ntmps29
    go_upto_region 1 with fail
    refine wp_name (fun wr => HasF4 wr w.heap.size tw tx ty tz ∧ HasF4 wr (w.heap.size + 1) rw rx ry rz ∧ HasF4 wr (w.heap.size + 2) 0 0 0 0 ∧ Below w.heap.size w wr) ⟨⟨⟨by go_simp, by go_simp, by go_simp, by go_simp⟩, fun o => by go_simp⟩, ⟨⟨by go_simp, by go_simp, by go_simp, by go_simp⟩, fun o => by go_simp⟩, ⟨⟨by go_simp, by go_simp, by go_simp, by go_simp⟩, fun o => by go_simp⟩, by (repeat (first | exact Below.refl _ _ | (refine below_drewN ?_ _) | (refine Below.drew ?_) | (refine Below.setCell ?_ (by first | omega | (simp; try omega)) _) | (refine Below.alloc ?_ (by first | omega | (simp; try omega)) _) | (refine Below.trans ?_ (Below.mono (by assumption) (by first | omega | (simp; try omega))))))⟩ ?_
    rintro W1 ⟨hp0, hp1, hp2, hbel⟩
    have LW1hp0 := hp0.lt; have LW1hp1 := hp1.lt; have LW1hp2 := hp2.lt; have SW1 := hbel.size
    obtain ⟨⟨c0_0, c0_1, c0_2, c0_3⟩, fz0⟩ := id hp0
    obtain ⟨⟨c1_0, c1_1, c1_2, c1_3⟩, fz1⟩ := id hp1
    obtain ⟨⟨c2_0, c2_1, c2_2, c2_3⟩, fz2⟩ := id hp2
    go_wp2_with fail
    refine (c_impl_InnerOfTurns ht hr _).mono ?_
    rintro e W1c ⟨⟨r1, rfl, hv1⟩, hb⟩
    clear c0_0 c0_1 c0_2 c0_3 c1_0 c1_1 c1_2 c1_3 c2_0 c2_1 c2_2 c2_3 fz0 fz1 fz2
    replace hp0 := hp0.below hb
    replace hp1 := hp1.below hb
    replace hp2 := hp2.below hb
    replace hbel := hbel.trans (hb.mono hbel.size)
    clear hb
    have LW1chp0 := hp0.lt; have LW1chp1 := hp1.lt; have LW1chp2 := hp2.lt; have SW1c := hbel.size
    have hq2 : (FloatKind.f32.format.order r1 0 == some .lt) = false := by rw [order_fv hv1 (fvc rfl : Fv .f32 0 (some 0))]; exact q1
    obtain ⟨⟨c0_0, c0_1, c0_2, c0_3⟩, fz0⟩ := id hp0
    obtain ⟨⟨c1_0, c1_1, c1_2, c1_3⟩, fz1⟩ := id hp1
    obtain ⟨⟨c2_0, c2_1, c2_2, c2_3⟩, fz2⟩ := id hp2
    go_upto_region 3 with fail
    clear c0_0 c0_1 c0_2 c0_3 c1_0 c1_1 c1_2 c1_3 c2_0 c2_1 c2_2 c2_3 fz0 fz1 fz2
    refine wp_region_drawn [(13, isV (.pointer (some ⟨w.heap.size, 0, none⟩))), (14, isV (.float .f32 tw)), (15, isV (.pointer (some ⟨(w.heap.size + 1), 0, none⟩))), (16, isV (.float .f32 rw)), (17, isV (.float .f32 s)), (18, isFlt .f32 (stepC ((Ct).w) ((Cr).w) (Cs))), (19, isV (.pointer (some ⟨w.heap.size, 1, none⟩))), (20, isV (.float .f32 tx)), (21, isV (.pointer (some ⟨(w.heap.size + 1), 1, none⟩))), (22, isV (.float .f32 rx)), (23, isV (.float .f32 s)), (24, isFlt .f32 (stepC ((Ct).x) ((Cr).x) (Cs))), (25, isV (.pointer (some ⟨w.heap.size, 2, none⟩))), (26, isV (.float .f32 ty)), (27, isV (.pointer (some ⟨(w.heap.size + 1), 2, none⟩))), (28, isV (.float .f32 ry)), (29, isV (.float .f32 s)), (30, isFlt .f32 (stepC ((Ct).y) ((Cr).y) (Cs))), (31, isV (.pointer (some ⟨w.heap.size, 3, none⟩))), (32, isV (.float .f32 tz)), (33, isV (.pointer (some ⟨(w.heap.size + 1), 3, none⟩))), (34, isV (.float .f32 rz)), (35, isV (.float .f32 s)), (36, isFlt .f32 (stepC ((Ct).z) ((Cr).z) (Cs))), (37, isTurn ((⟨stepC ((Ct).w) ((Cr).w) (Cs), stepC ((Ct).x) ((Cr).x) (Cs), stepC ((Ct).y) ((Cr).y) (Cs), stepC ((Ct).z) ((Cr).z) (Cs)⟩ : V4))), (38, isTurn (mendC ((⟨stepC ((Ct).w) ((Cr).w) (Cs), stepC ((Ct).x) ((Cr).x) (Cs), stepC ((Ct).y) ((Cr).y) (Cs), stepC ((Ct).z) ((Cr).z) (Cs)⟩ : V4))))]
      (fun wr => HasF4 wr w.heap.size tw tx ty tz ∧ HasF4 wr (w.heap.size + 1) rw rx ry rz ∧ HasF4 wr (w.heap.size + 2) 0 0 0 0 ∧ Below W1c.heap.size W1c wr)
      (by kernel_rfl) (by kernel_rfl) (by kernel_rfl) (by kernel_rfl) (Nat.le_of_ble_eq_true (by kernel_rfl)) (by kernel_rfl) ?_ (fun _ _ hb h => ⟨h.1.below hb, h.2.1.below hb, h.2.2.1.below hb, h.2.2.2.trans (hb.mono h.2.2.2.size)⟩) ⟨hp0, hp1, hp2, (Below.refl _ _).drew⟩ ?_ ?_
    · intro p hp
      simp only [List.mem_cons, List.not_mem_nil, or_false] at hp
      rcases hp with rfl | rfl | rfl | rfl | rfl | rfl | rfl | rfl | rfl | rfl | rfl | rfl | rfl | rfl | rfl | rfl | rfl | rfl | rfl | rfl | rfl | rfl | rfl | rfl | rfl | rfl <;> first | exact mono_isV _ | exact mono_isVec _ | exact mono_isTurn _ | exact mono_isFlt _ _ | exact mono_isOwn3 _ | exact mono_isOwn4 _
    · intro i o hi ho f w1 hI hdep
      simp only [List.map_cons, List.map_nil, mix, List.contains_cons, List.contains_nil, Nat.reduceBEq, Bool.or_true, Bool.or_false, Bool.false_eq_true, if_true, if_false, Nat.reduceAdd, Nat.zero_add]
      have hcase : i = 0 ∨ i = 1 ∨ i = 2 ∨ i = 3 ∨ i = 4 ∨ i = 5 ∨ i = 6 ∨ i = 7 ∨ i = 8 ∨ i = 9 ∨ i = 10 ∨ i = 11 ∨ i = 12 ∨ i = 13 ∨ i = 14 ∨ i = 15 ∨ i = 16 ∨ i = 17 ∨ i = 18 ∨ i = 19 ∨ i = 20 ∨ i = 21 ∨ i = 22 ∨ i = 23 ∨ i = 24 ∨ i = 25 := by simp at hi; omega
      obtain ⟨⟨⟨c0_0, c0_1, c0_2, c0_3⟩, fz0⟩, ⟨⟨c1_0, c1_1, c1_2, c1_3⟩, fz1⟩, ⟨⟨c2_0, c2_1, c2_2, c2_3⟩, fz2⟩, hb1⟩ := hI
      have hsz := hb1.size
      rcases hcase with rfl | rfl | rfl | rfl | rfl | rfl | rfl | rfl | rfl | rfl | rfl | rfl | rfl | rfl | rfl | rfl | rfl | rfl | rfl | rfl | rfl | rfl | rfl | rfl | rfl | rfl
      · obtain rfl := Option.some.inj ho
        clear hdep ho hi
        generalize f 13 = v13 at *; generalize f 14 = v14 at *; generalize f 15 = v15 at *; generalize f 16 = v16 at *; generalize f 17 = v17 at *; generalize f 18 = v18 at *; generalize f 19 = v19 at *; generalize f 20 = v20 at *; generalize f 21 = v21 at *; generalize f 22 = v22 at *; generalize f 23 = v23 at *; generalize f 24 = v24 at *; generalize f 25 = v25 at *; generalize f 26 = v26 at *; generalize f 27 = v27 at *; generalize f 28 = v28 at *; generalize f 29 = v29 at *; generalize f 30 = v30 at *; generalize f 31 = v31 at *; generalize f 32 = v32 at *; generalize f 33 = v33 at *; generalize f 34 = v34 at *; generalize f 35 = v35 at *; generalize f 36 = v36 at *; generalize f 37 = v37 at *; generalize f 38 = v38 at *
        refine wpOp_step rfl (fun K hK => ?_)
        go_simp
        exact hK _ _ ⟨_, rfl, (fun p hp => by cases hp; rfl), Below.refl _ _⟩
      · obtain rfl := Option.some.inj ho
        have e0 : f 13 = (.pointer (some ⟨w.heap.size, 0, none⟩)) := hdep ⟨0, .data⟩ (by simp) rfl
        clear hdep ho hi
        generalize f 13 = v13 at *; generalize f 14 = v14 at *; generalize f 15 = v15 at *; generalize f 16 = v16 at *; generalize f 17 = v17 at *; generalize f 18 = v18 at *; generalize f 19 = v19 at *; generalize f 20 = v20 at *; generalize f 21 = v21 at *; generalize f 22 = v22 at *; generalize f 23 = v23 at *; generalize f 24 = v24 at *; generalize f 25 = v25 at *; generalize f 26 = v26 at *; generalize f 27 = v27 at *; generalize f 28 = v28 at *; generalize f 29 = v29 at *; generalize f 30 = v30 at *; generalize f 31 = v31 at *; generalize f 32 = v32 at *; generalize f 33 = v33 at *; generalize f 34 = v34 at *; generalize f 35 = v35 at *; generalize f 36 = v36 at *; generalize f 37 = v37 at *; generalize f 38 = v38 at *
        subst e0
        refine wpOp_step rfl (fun K hK => ?_)
        go_simp
        exact hK _ _ ⟨_, rfl, (fun p hp => by cases hp; rfl), Below.refl _ _⟩
      · obtain rfl := Option.some.inj ho
        clear hdep ho hi
        generalize f 13 = v13 at *; generalize f 14 = v14 at *; generalize f 15 = v15 at *; generalize f 16 = v16 at *; generalize f 17 = v17 at *; generalize f 18 = v18 at *; generalize f 19 = v19 at *; generalize f 20 = v20 at *; generalize f 21 = v21 at *; generalize f 22 = v22 at *; generalize f 23 = v23 at *; generalize f 24 = v24 at *; generalize f 25 = v25 at *; generalize f 26 = v26 at *; generalize f 27 = v27 at *; generalize f 28 = v28 at *; generalize f 29 = v29 at *; generalize f 30 = v30 at *; generalize f 31 = v31 at *; generalize f 32 = v32 at *; generalize f 33 = v33 at *; generalize f 34 = v34 at *; generalize f 35 = v35 at *; generalize f 36 = v36 at *; generalize f 37 = v37 at *; generalize f 38 = v38 at *
        refine wpOp_step rfl (fun K hK => ?_)
        go_simp
        exact hK _ _ ⟨_, rfl, (fun p hp => by cases hp; rfl), Below.refl _ _⟩
      · obtain rfl := Option.some.inj ho
        have e2 : f 15 = (.pointer (some ⟨(w.heap.size + 1), 0, none⟩)) := hdep ⟨2, .data⟩ (by simp) rfl
        clear hdep ho hi
        generalize f 13 = v13 at *; generalize f 14 = v14 at *; generalize f 15 = v15 at *; generalize f 16 = v16 at *; generalize f 17 = v17 at *; generalize f 18 = v18 at *; generalize f 19 = v19 at *; generalize f 20 = v20 at *; generalize f 21 = v21 at *; generalize f 22 = v22 at *; generalize f 23 = v23 at *; generalize f 24 = v24 at *; generalize f 25 = v25 at *; generalize f 26 = v26 at *; generalize f 27 = v27 at *; generalize f 28 = v28 at *; generalize f 29 = v29 at *; generalize f 30 = v30 at *; generalize f 31 = v31 at *; generalize f 32 = v32 at *; generalize f 33 = v33 at *; generalize f 34 = v34 at *; generalize f 35 = v35 at *; generalize f 36 = v36 at *; generalize f 37 = v37 at *; generalize f 38 = v38 at *
        subst e2
        refine wpOp_step rfl (fun K hK => ?_)
        go_simp
        exact hK _ _ ⟨_, rfl, (fun p hp => by cases hp; rfl), Below.refl _ _⟩
      · obtain rfl := Option.some.inj ho
        clear hdep ho hi
        generalize f 13 = v13 at *; generalize f 14 = v14 at *; generalize f 15 = v15 at *; generalize f 16 = v16 at *; generalize f 17 = v17 at *; generalize f 18 = v18 at *; generalize f 19 = v19 at *; generalize f 20 = v20 at *; generalize f 21 = v21 at *; generalize f 22 = v22 at *; generalize f 23 = v23 at *; generalize f 24 = v24 at *; generalize f 25 = v25 at *; generalize f 26 = v26 at *; generalize f 27 = v27 at *; generalize f 28 = v28 at *; generalize f 29 = v29 at *; generalize f 30 = v30 at *; generalize f 31 = v31 at *; generalize f 32 = v32 at *; generalize f 33 = v33 at *; generalize f 34 = v34 at *; generalize f 35 = v35 at *; generalize f 36 = v36 at *; generalize f 37 = v37 at *; generalize f 38 = v38 at *
        refine wpOp_step rfl (fun K hK => ?_)
        go_simp
        exact hK _ _ ⟨_, rfl, (fun p hp => by cases hp; rfl), Below.refl _ _⟩
      · obtain rfl := Option.some.inj ho
        have e1 : f 14 = (.float .f32 tw) := hdep ⟨1, .data⟩ (by simp) rfl
        have e3 : f 16 = (.float .f32 rw) := hdep ⟨3, .data⟩ (by simp) rfl
        have e4 : f 17 = (.float .f32 s) := hdep ⟨4, .data⟩ (by simp) rfl
        clear hdep ho hi
        generalize f 13 = v13 at *; generalize f 14 = v14 at *; generalize f 15 = v15 at *; generalize f 16 = v16 at *; generalize f 17 = v17 at *; generalize f 18 = v18 at *; generalize f 19 = v19 at *; generalize f 20 = v20 at *; generalize f 21 = v21 at *; generalize f 22 = v22 at *; generalize f 23 = v23 at *; generalize f 24 = v24 at *; generalize f 25 = v25 at *; generalize f 26 = v26 at *; generalize f 27 = v27 at *; generalize f 28 = v28 at *; generalize f 29 = v29 at *; generalize f 30 = v30 at *; generalize f 31 = v31 at *; generalize f 32 = v32 at *; generalize f 33 = v33 at *; generalize f 34 = v34 at *; generalize f 35 = v35 at *; generalize f 36 = v36 at *; generalize f 37 = v37 at *; generalize f 38 = v38 at *
        subst e1 e3 e4
        refine wpOp_step rfl (fun K hK => ?_)
        go_simp
        refine (c_impl_between ht.w hr.w hs _).mono ?_
        rintro e w' ⟨⟨y0, rfl, hv⟩, hb⟩
        exact hK _ _ ⟨_, rfl, (fun p hp => by cases hp; exact ⟨_, rfl, hv⟩), hb⟩
      · obtain rfl := Option.some.inj ho
        clear hdep ho hi
        generalize f 13 = v13 at *; generalize f 14 = v14 at *; generalize f 15 = v15 at *; generalize f 16 = v16 at *; generalize f 17 = v17 at *; generalize f 18 = v18 at *; generalize f 19 = v19 at *; generalize f 20 = v20 at *; generalize f 21 = v21 at *; generalize f 22 = v22 at *; generalize f 23 = v23 at *; generalize f 24 = v24 at *; generalize f 25 = v25 at *; generalize f 26 = v26 at *; generalize f 27 = v27 at *; generalize f 28 = v28 at *; generalize f 29 = v29 at *; generalize f 30 = v30 at *; generalize f 31 = v31 at *; generalize f 32 = v32 at *; generalize f 33 = v33 at *; generalize f 34 = v34 at *; generalize f 35 = v35 at *; generalize f 36 = v36 at *; generalize f 37 = v37 at *; generalize f 38 = v38 at *
        refine wpOp_step rfl (fun K hK => ?_)
        go_simp
        exact hK _ _ ⟨_, rfl, (fun p hp => by cases hp; rfl), Below.refl _ _⟩
      · obtain rfl := Option.some.inj ho
        have e6 : f 19 = (.pointer (some ⟨w.heap.size, 1, none⟩)) := hdep ⟨6, .data⟩ (by simp) rfl
        clear hdep ho hi
        generalize f 13 = v13 at *; generalize f 14 = v14 at *; generalize f 15 = v15 at *; generalize f 16 = v16 at *; generalize f 17 = v17 at *; generalize f 18 = v18 at *; generalize f 19 = v19 at *; generalize f 20 = v20 at *; generalize f 21 = v21 at *; generalize f 22 = v22 at *; generalize f 23 = v23 at *; generalize f 24 = v24 at *; generalize f 25 = v25 at *; generalize f 26 = v26 at *; generalize f 27 = v27 at *; generalize f 28 = v28 at *; generalize f 29 = v29 at *; generalize f 30 = v30 at *; generalize f 31 = v31 at *; generalize f 32 = v32 at *; generalize f 33 = v33 at *; generalize f 34 = v34 at *; generalize f 35 = v35 at *; generalize f 36 = v36 at *; generalize f 37 = v37 at *; generalize f 38 = v38 at *
        subst e6
        refine wpOp_step rfl (fun K hK => ?_)
        go_simp
        exact hK _ _ ⟨_, rfl, (fun p hp => by cases hp; rfl), Below.refl _ _⟩
      · obtain rfl := Option.some.inj ho
        clear hdep ho hi
        generalize f 13 = v13 at *; generalize f 14 = v14 at *; generalize f 15 = v15 at *; generalize f 16 = v16 at *; generalize f 17 = v17 at *; generalize f 18 = v18 at *; generalize f 19 = v19 at *; generalize f 20 = v20 at *; generalize f 21 = v21 at *; generalize f 22 = v22 at *; generalize f 23 = v23 at *; generalize f 24 = v24 at *; generalize f 25 = v25 at *; generalize f 26 = v26 at *; generalize f 27 = v27 at *; generalize f 28 = v28 at *; generalize f 29 = v29 at *; generalize f 30 = v30 at *; generalize f 31 = v31 at *; generalize f 32 = v32 at *; generalize f 33 = v33 at *; generalize f 34 = v34 at *; generalize f 35 = v35 at *; generalize f 36 = v36 at *; generalize f 37 = v37 at *; generalize f 38 = v38 at *
        refine wpOp_step rfl (fun K hK => ?_)
        go_simp
        exact hK _ _ ⟨_, rfl, (fun p hp => by cases hp; rfl), Below.refl _ _⟩
      · obtain rfl := Option.some.inj ho
        have e8 : f 21 = (.pointer (some ⟨(w.heap.size + 1), 1, none⟩)) := hdep ⟨8, .data⟩ (by simp) rfl
        clear hdep ho hi
        generalize f 13 = v13 at *; generalize f 14 = v14 at *; generalize f 15 = v15 at *; generalize f 16 = v16 at *; generalize f 17 = v17 at *; generalize f 18 = v18 at *; generalize f 19 = v19 at *; generalize f 20 = v20 at *; generalize f 21 = v21 at *; generalize f 22 = v22 at *; generalize f 23 = v23 at *; generalize f 24 = v24 at *; generalize f 25 = v25 at *; generalize f 26 = v26 at *; generalize f 27 = v27 at *; generalize f 28 = v28 at *; generalize f 29 = v29 at *; generalize f 30 = v30 at *; generalize f 31 = v31 at *; generalize f 32 = v32 at *; generalize f 33 = v33 at *; generalize f 34 = v34 at *; generalize f 35 = v35 at *; generalize f 36 = v36 at *; generalize f 37 = v37 at *; generalize f 38 = v38 at *
        subst e8
        refine wpOp_step rfl (fun K hK => ?_)
        go_simp
        exact hK _ _ ⟨_, rfl, (fun p hp => by cases hp; rfl), Below.refl _ _⟩
      · obtain rfl := Option.some.inj ho
        clear hdep ho hi
        generalize f 13 = v13 at *; generalize f 14 = v14 at *; generalize f 15 = v15 at *; generalize f 16 = v16 at *; generalize f 17 = v17 at *; generalize f 18 = v18 at *; generalize f 19 = v19 at *; generalize f 20 = v20 at *; generalize f 21 = v21 at *; generalize f 22 = v22 at *; generalize f 23 = v23 at *; generalize f 24 = v24 at *; generalize f 25 = v25 at *; generalize f 26 = v26 at *; generalize f 27 = v27 at *; generalize f 28 = v28 at *; generalize f 29 = v29 at *; generalize f 30 = v30 at *; generalize f 31 = v31 at *; generalize f 32 = v32 at *; generalize f 33 = v33 at *; generalize f 34 = v34 at *; generalize f 35 = v35 at *; generalize f 36 = v36 at *; generalize f 37 = v37 at *; generalize f 38 = v38 at *
        refine wpOp_step rfl (fun K hK => ?_)
        go_simp
        exact hK _ _ ⟨_, rfl, (fun p hp => by cases hp; rfl), Below.refl _ _⟩
      · obtain rfl := Option.some.inj ho
        have e7 : f 20 = (.float .f32 tx) := hdep ⟨7, .data⟩ (by simp) rfl
        have e9 : f 22 = (.float .f32 rx) := hdep ⟨9, .data⟩ (by simp) rfl
        have e10 : f 23 = (.float .f32 s) := hdep ⟨10, .data⟩ (by simp) rfl
        clear hdep ho hi
        generalize f 13 = v13 at *; generalize f 14 = v14 at *; generalize f 15 = v15 at *; generalize f 16 = v16 at *; generalize f 17 = v17 at *; generalize f 18 = v18 at *; generalize f 19 = v19 at *; generalize f 20 = v20 at *; generalize f 21 = v21 at *; generalize f 22 = v22 at *; generalize f 23 = v23 at *; generalize f 24 = v24 at *; generalize f 25 = v25 at *; generalize f 26 = v26 at *; generalize f 27 = v27 at *; generalize f 28 = v28 at *; generalize f 29 = v29 at *; generalize f 30 = v30 at *; generalize f 31 = v31 at *; generalize f 32 = v32 at *; generalize f 33 = v33 at *; generalize f 34 = v34 at *; generalize f 35 = v35 at *; generalize f 36 = v36 at *; generalize f 37 = v37 at *; generalize f 38 = v38 at *
        subst e7 e9 e10
        refine wpOp_step rfl (fun K hK => ?_)
        go_simp
        refine (c_impl_between ht.x hr.x hs _).mono ?_
        rintro e w' ⟨⟨y0, rfl, hv⟩, hb⟩
        exact hK _ _ ⟨_, rfl, (fun p hp => by cases hp; exact ⟨_, rfl, hv⟩), hb⟩
      · obtain rfl := Option.some.inj ho
        clear hdep ho hi
        generalize f 13 = v13 at *; generalize f 14 = v14 at *; generalize f 15 = v15 at *; generalize f 16 = v16 at *; generalize f 17 = v17 at *; generalize f 18 = v18 at *; generalize f 19 = v19 at *; generalize f 20 = v20 at *; generalize f 21 = v21 at *; generalize f 22 = v22 at *; generalize f 23 = v23 at *; generalize f 24 = v24 at *; generalize f 25 = v25 at *; generalize f 26 = v26 at *; generalize f 27 = v27 at *; generalize f 28 = v28 at *; generalize f 29 = v29 at *; generalize f 30 = v30 at *; generalize f 31 = v31 at *; generalize f 32 = v32 at *; generalize f 33 = v33 at *; generalize f 34 = v34 at *; generalize f 35 = v35 at *; generalize f 36 = v36 at *; generalize f 37 = v37 at *; generalize f 38 = v38 at *
        refine wpOp_step rfl (fun K hK => ?_)
        go_simp
        exact hK _ _ ⟨_, rfl, (fun p hp => by cases hp; rfl), Below.refl _ _⟩
      · obtain rfl := Option.some.inj ho
        have e12 : f 25 = (.pointer (some ⟨w.heap.size, 2, none⟩)) := hdep ⟨12, .data⟩ (by simp) rfl
        clear hdep ho hi
        generalize f 13 = v13 at *; generalize f 14 = v14 at *; generalize f 15 = v15 at *; generalize f 16 = v16 at *; generalize f 17 = v17 at *; generalize f 18 = v18 at *; generalize f 19 = v19 at *; generalize f 20 = v20 at *; generalize f 21 = v21 at *; generalize f 22 = v22 at *; generalize f 23 = v23 at *; generalize f 24 = v24 at *; generalize f 25 = v25 at *; generalize f 26 = v26 at *; generalize f 27 = v27 at *; generalize f 28 = v28 at *; generalize f 29 = v29 at *; generalize f 30 = v30 at *; generalize f 31 = v31 at *; generalize f 32 = v32 at *; generalize f 33 = v33 at *; generalize f 34 = v34 at *; generalize f 35 = v35 at *; generalize f 36 = v36 at *; generalize f 37 = v37 at *; generalize f 38 = v38 at *
        subst e12
        refine wpOp_step rfl (fun K hK => ?_)
        go_simp
        exact hK _ _ ⟨_, rfl, (fun p hp => by cases hp; rfl), Below.refl _ _⟩
      · obtain rfl := Option.some.inj ho
        clear hdep ho hi
        generalize f 13 = v13 at *; generalize f 14 = v14 at *; generalize f 15 = v15 at *; generalize f 16 = v16 at *; generalize f 17 = v17 at *; generalize f 18 = v18 at *; generalize f 19 = v19 at *; generalize f 20 = v20 at *; generalize f 21 = v21 at *; generalize f 22 = v22 at *; generalize f 23 = v23 at *; generalize f 24 = v24 at *; generalize f 25 = v25 at *; generalize f 26 = v26 at *; generalize f 27 = v27 at *; generalize f 28 = v28 at *; generalize f 29 = v29 at *; generalize f 30 = v30 at *; generalize f 31 = v31 at *; generalize f 32 = v32 at *; generalize f 33 = v33 at *; generalize f 34 = v34 at *; generalize f 35 = v35 at *; generalize f 36 = v36 at *; generalize f 37 = v37 at *; generalize f 38 = v38 at *
        refine wpOp_step rfl (fun K hK => ?_)
        go_simp
        exact hK _ _ ⟨_, rfl, (fun p hp => by cases hp; rfl), Below.refl _ _⟩
      · obtain rfl := Option.some.inj ho
        have e14 : f 27 = (.pointer (some ⟨(w.heap.size + 1), 2, none⟩)) := hdep ⟨14, .data⟩ (by simp) rfl
        clear hdep ho hi
        generalize f 13 = v13 at *; generalize f 14 = v14 at *; generalize f 15 = v15 at *; generalize f 16 = v16 at *; generalize f 17 = v17 at *; generalize f 18 = v18 at *; generalize f 19 = v19 at *; generalize f 20 = v20 at *; generalize f 21 = v21 at *; generalize f 22 = v22 at *; generalize f 23 = v23 at *; generalize f 24 = v24 at *; generalize f 25 = v25 at *; generalize f 26 = v26 at *; generalize f 27 = v27 at *; generalize f 28 = v28 at *; generalize f 29 = v29 at *; generalize f 30 = v30 at *; generalize f 31 = v31 at *; generalize f 32 = v32 at *; generalize f 33 = v33 at *; generalize f 34 = v34 at *; generalize f 35 = v35 at *; generalize f 36 = v36 at *; generalize f 37 = v37 at *; generalize f 38 = v38 at *
        subst e14
        refine wpOp_step rfl (fun K hK => ?_)
        go_simp
        exact hK _ _ ⟨_, rfl, (fun p hp => by cases hp; rfl), Below.refl _ _⟩
      · obtain rfl := Option.some.inj ho
        clear hdep ho hi
        generalize f 13 = v13 at *; generalize f 14 = v14 at *; generalize f 15 = v15 at *; generalize f 16 = v16 at *; generalize f 17 = v17 at *; generalize f 18 = v18 at *; generalize f 19 = v19 at *; generalize f 20 = v20 at *; generalize f 21 = v21 at *; generalize f 22 = v22 at *; generalize f 23 = v23 at *; generalize f 24 = v24 at *; generalize f 25 = v25 at *; generalize f 26 = v26 at *; generalize f 27 = v27 at *; generalize f 28 = v28 at *; generalize f 29 = v29 at *; generalize f 30 = v30 at *; generalize f 31 = v31 at *; generalize f 32 = v32 at *; generalize f 33 = v33 at *; generalize f 34 = v34 at *; generalize f 35 = v35 at *; generalize f 36 = v36 at *; generalize f 37 = v37 at *; generalize f 38 = v38 at *
        refine wpOp_step rfl (fun K hK => ?_)
        go_simp
        exact hK _ _ ⟨_, rfl, (fun p hp => by cases hp; rfl), Below.refl _ _⟩
      · obtain rfl := Option.some.inj ho
        have e13 : f 26 = (.float .f32 ty) := hdep ⟨13, .data⟩ (by simp) rfl
        have e15 : f 28 = (.float .f32 ry) := hdep ⟨15, .data⟩ (by simp) rfl
        have e16 : f 29 = (.float .f32 s) := hdep ⟨16, .data⟩ (by simp) rfl
        clear hdep ho hi
        generalize f 13 = v13 at *; generalize f 14 = v14 at *; generalize f 15 = v15 at *; generalize f 16 = v16 at *; generalize f 17 = v17 at *; generalize f 18 = v18 at *; generalize f 19 = v19 at *; generalize f 20 = v20 at *; generalize f 21 = v21 at *; generalize f 22 = v22 at *; generalize f 23 = v23 at *; generalize f 24 = v24 at *; generalize f 25 = v25 at *; generalize f 26 = v26 at *; generalize f 27 = v27 at *; generalize f 28 = v28 at *; generalize f 29 = v29 at *; generalize f 30 = v30 at *; generalize f 31 = v31 at *; generalize f 32 = v32 at *; generalize f 33 = v33 at *; generalize f 34 = v34 at *; generalize f 35 = v35 at *; generalize f 36 = v36 at *; generalize f 37 = v37 at *; generalize f 38 = v38 at *
        subst e13 e15 e16
        refine wpOp_step rfl (fun K hK => ?_)
        go_simp
        refine (c_impl_between ht.y hr.y hs _).mono ?_
        rintro e w' ⟨⟨y0, rfl, hv⟩, hb⟩
        exact hK _ _ ⟨_, rfl, (fun p hp => by cases hp; exact ⟨_, rfl, hv⟩), hb⟩
      · obtain rfl := Option.some.inj ho
        clear hdep ho hi
        generalize f 13 = v13 at *; generalize f 14 = v14 at *; generalize f 15 = v15 at *; generalize f 16 = v16 at *; generalize f 17 = v17 at *; generalize f 18 = v18 at *; generalize f 19 = v19 at *; generalize f 20 = v20 at *; generalize f 21 = v21 at *; generalize f 22 = v22 at *; generalize f 23 = v23 at *; generalize f 24 = v24 at *; generalize f 25 = v25 at *; generalize f 26 = v26 at *; generalize f 27 = v27 at *; generalize f 28 = v28 at *; generalize f 29 = v29 at *; generalize f 30 = v30 at *; generalize f 31 = v31 at *; generalize f 32 = v32 at *; generalize f 33 = v33 at *; generalize f 34 = v34 at *; generalize f 35 = v35 at *; generalize f 36 = v36 at *; generalize f 37 = v37 at *; generalize f 38 = v38 at *
        refine wpOp_step rfl (fun K hK => ?_)
        go_simp
        exact hK _ _ ⟨_, rfl, (fun p hp => by cases hp; rfl), Below.refl _ _⟩
      · obtain rfl := Option.some.inj ho
        have e18 : f 31 = (.pointer (some ⟨w.heap.size, 3, none⟩)) := hdep ⟨18, .data⟩ (by simp) rfl
        clear hdep ho hi
        generalize f 13 = v13 at *; generalize f 14 = v14 at *; generalize f 15 = v15 at *; generalize f 16 = v16 at *; generalize f 17 = v17 at *; generalize f 18 = v18 at *; generalize f 19 = v19 at *; generalize f 20 = v20 at *; generalize f 21 = v21 at *; generalize f 22 = v22 at *; generalize f 23 = v23 at *; generalize f 24 = v24 at *; generalize f 25 = v25 at *; generalize f 26 = v26 at *; generalize f 27 = v27 at *; generalize f 28 = v28 at *; generalize f 29 = v29 at *; generalize f 30 = v30 at *; generalize f 31 = v31 at *; generalize f 32 = v32 at *; generalize f 33 = v33 at *; generalize f 34 = v34 at *; generalize f 35 = v35 at *; generalize f 36 = v36 at *; generalize f 37 = v37 at *; generalize f 38 = v38 at *
        subst e18
        refine wpOp_step rfl (fun K hK => ?_)
        go_simp
        exact hK _ _ ⟨_, rfl, (fun p hp => by cases hp; rfl), Below.refl _ _⟩
      · obtain rfl := Option.some.inj ho
        clear hdep ho hi
        generalize f 13 = v13 at *; generalize f 14 = v14 at *; generalize f 15 = v15 at *; generalize f 16 = v16 at *; generalize f 17 = v17 at *; generalize f 18 = v18 at *; generalize f 19 = v19 at *; generalize f 20 = v20 at *; generalize f 21 = v21 at *; generalize f 22 = v22 at *; generalize f 23 = v23 at *; generalize f 24 = v24 at *; generalize f 25 = v25 at *; generalize f 26 = v26 at *; generalize f 27 = v27 at *; generalize f 28 = v28 at *; generalize f 29 = v29 at *; generalize f 30 = v30 at *; generalize f 31 = v31 at *; generalize f 32 = v32 at *; generalize f 33 = v33 at *; generalize f 34 = v34 at *; generalize f 35 = v35 at *; generalize f 36 = v36 at *; generalize f 37 = v37 at *; generalize f 38 = v38 at *
        refine wpOp_step rfl (fun K hK => ?_)
        go_simp
        exact hK _ _ ⟨_, rfl, (fun p hp => by cases hp; rfl), Below.refl _ _⟩
      · obtain rfl := Option.some.inj ho
        have e20 : f 33 = (.pointer (some ⟨(w.heap.size + 1), 3, none⟩)) := hdep ⟨20, .data⟩ (by simp) rfl
        clear hdep ho hi
        generalize f 13 = v13 at *; generalize f 14 = v14 at *; generalize f 15 = v15 at *; generalize f 16 = v16 at *; generalize f 17 = v17 at *; generalize f 18 = v18 at *; generalize f 19 = v19 at *; generalize f 20 = v20 at *; generalize f 21 = v21 at *; generalize f 22 = v22 at *; generalize f 23 = v23 at *; generalize f 24 = v24 at *; generalize f 25 = v25 at *; generalize f 26 = v26 at *; generalize f 27 = v27 at *; generalize f 28 = v28 at *; generalize f 29 = v29 at *; generalize f 30 = v30 at *; generalize f 31 = v31 at *; generalize f 32 = v32 at *; generalize f 33 = v33 at *; generalize f 34 = v34 at *; generalize f 35 = v35 at *; generalize f 36 = v36 at *; generalize f 37 = v37 at *; generalize f 38 = v38 at *
        subst e20
        refine wpOp_step rfl (fun K hK => ?_)
        go_simp
        exact hK _ _ ⟨_, rfl, (fun p hp => by cases hp; rfl), Below.refl _ _⟩
      · obtain rfl := Option.some.inj ho
        clear hdep ho hi
        generalize f 13 = v13 at *; generalize f 14 = v14 at *; generalize f 15 = v15 at *; generalize f 16 = v16 at *; generalize f 17 = v17 at *; generalize f 18 = v18 at *; generalize f 19 = v19 at *; generalize f 20 = v20 at *; generalize f 21 = v21 at *; generalize f 22 = v22 at *; generalize f 23 = v23 at *; generalize f 24 = v24 at *; generalize f 25 = v25 at *; generalize f 26 = v26 at *; generalize f 27 = v27 at *; generalize f 28 = v28 at *; generalize f 29 = v29 at *; generalize f 30 = v30 at *; generalize f 31 = v31 at *; generalize f 32 = v32 at *; generalize f 33 = v33 at *; generalize f 34 = v34 at *; generalize f 35 = v35 at *; generalize f 36 = v36 at *; generalize f 37 = v37 at *; generalize f 38 = v38 at *
        refine wpOp_step rfl (fun K hK => ?_)
        go_simp
        exact hK _ _ ⟨_, rfl, (fun p hp => by cases hp; rfl), Below.refl _ _⟩
      · obtain rfl := Option.some.inj ho
        have e19 : f 32 = (.float .f32 tz) := hdep ⟨19, .data⟩ (by simp) rfl
        have e21 : f 34 = (.float .f32 rz) := hdep ⟨21, .data⟩ (by simp) rfl
        have e22 : f 35 = (.float .f32 s) := hdep ⟨22, .data⟩ (by simp) rfl
        clear hdep ho hi
        generalize f 13 = v13 at *; generalize f 14 = v14 at *; generalize f 15 = v15 at *; generalize f 16 = v16 at *; generalize f 17 = v17 at *; generalize f 18 = v18 at *; generalize f 19 = v19 at *; generalize f 20 = v20 at *; generalize f 21 = v21 at *; generalize f 22 = v22 at *; generalize f 23 = v23 at *; generalize f 24 = v24 at *; generalize f 25 = v25 at *; generalize f 26 = v26 at *; generalize f 27 = v27 at *; generalize f 28 = v28 at *; generalize f 29 = v29 at *; generalize f 30 = v30 at *; generalize f 31 = v31 at *; generalize f 32 = v32 at *; generalize f 33 = v33 at *; generalize f 34 = v34 at *; generalize f 35 = v35 at *; generalize f 36 = v36 at *; generalize f 37 = v37 at *; generalize f 38 = v38 at *
        subst e19 e21 e22
        refine wpOp_step rfl (fun K hK => ?_)
        go_simp
        refine (c_impl_between ht.z hr.z hs _).mono ?_
        rintro e w' ⟨⟨y0, rfl, hv⟩, hb⟩
        exact hK _ _ ⟨_, rfl, (fun p hp => by cases hp; exact ⟨_, rfl, hv⟩), hb⟩
      · obtain rfl := Option.some.inj ho
        obtain ⟨r5, e5, hv5⟩ : isFlt _ _ (f 18) w1 := hdep ⟨5, .data⟩ (by simp) rfl
        obtain ⟨r11, e11, hv11⟩ : isFlt _ _ (f 24) w1 := hdep ⟨11, .data⟩ (by simp) rfl
        obtain ⟨r17, e17, hv17⟩ : isFlt _ _ (f 30) w1 := hdep ⟨17, .data⟩ (by simp) rfl
        obtain ⟨r23, e23, hv23⟩ : isFlt _ _ (f 36) w1 := hdep ⟨23, .data⟩ (by simp) rfl
        clear hdep ho hi
        generalize f 13 = v13 at *; generalize f 14 = v14 at *; generalize f 15 = v15 at *; generalize f 16 = v16 at *; generalize f 17 = v17 at *; generalize f 18 = v18 at *; generalize f 19 = v19 at *; generalize f 20 = v20 at *; generalize f 21 = v21 at *; generalize f 22 = v22 at *; generalize f 23 = v23 at *; generalize f 24 = v24 at *; generalize f 25 = v25 at *; generalize f 26 = v26 at *; generalize f 27 = v27 at *; generalize f 28 = v28 at *; generalize f 29 = v29 at *; generalize f 30 = v30 at *; generalize f 31 = v31 at *; generalize f 32 = v32 at *; generalize f 33 = v33 at *; generalize f 34 = v34 at *; generalize f 35 = v35 at *; generalize f 36 = v36 at *; generalize f 37 = v37 at *; generalize f 38 = v38 at *
        subst e5 e11 e17 e23
        refine wpOp_step rfl (fun K hK => ?_)
        go_simp
        exact hK _ _ ⟨_, rfl, (fun p hp => by cases hp; exact ⟨_, _, _, _, rfl, (⟨hv5, hv11, hv17, hv23⟩ : Fv4 r5 r11 r17 r23 ⟨stepC ((Ct).w) ((Cr).w) (Cs), stepC ((Ct).x) ((Cr).x) (Cs), stepC ((Ct).y) ((Cr).y) (Cs), stepC ((Ct).z) ((Cr).z) (Cs)⟩)⟩), Below.refl _ _⟩
      · obtain rfl := Option.some.inj ho
        obtain ⟨w24, x24, y24, z24, e24, hv24⟩ : isTurn _ (f 37) w1 := hdep ⟨24, .data⟩ (by simp) rfl
        clear hdep ho hi
        generalize f 13 = v13 at *; generalize f 14 = v14 at *; generalize f 15 = v15 at *; generalize f 16 = v16 at *; generalize f 17 = v17 at *; generalize f 18 = v18 at *; generalize f 19 = v19 at *; generalize f 20 = v20 at *; generalize f 21 = v21 at *; generalize f 22 = v22 at *; generalize f 23 = v23 at *; generalize f 24 = v24 at *; generalize f 25 = v25 at *; generalize f 26 = v26 at *; generalize f 27 = v27 at *; generalize f 28 = v28 at *; generalize f 29 = v29 at *; generalize f 30 = v30 at *; generalize f 31 = v31 at *; generalize f 32 = v32 at *; generalize f 33 = v33 at *; generalize f 34 = v34 at *; generalize f 35 = v35 at *; generalize f 36 = v36 at *; generalize f 37 = v37 at *; generalize f 38 = v38 at *
        subst e24
        refine wpOp_step rfl (fun K hK => ?_)
        go_simp
        refine (c_impl_MendTurn hv24 _).mono ?_
        rintro e w' ⟨⟨y0, y1, y2, y3, rfl, hv⟩, hb⟩
        exact hK _ _ ⟨_, rfl, (fun p hp => by cases hp; exact ⟨_, _, _, _, rfl, hv⟩), hb⟩
    · intro f w1 hI hF
      simp only [List.map_cons, List.map_nil, mix, List.contains_cons, List.contains_nil, Nat.reduceBEq, Bool.or_true, Bool.or_false, Bool.false_eq_true, if_true, if_false, Nat.reduceAdd, Nat.zero_add]
      obtain ⟨hp0, hp1, hp2, hb1⟩ := hI
      have hsz := hb1.size
      replace hbel := hbel.trans (hb1.mono hbel.size)
      obtain ⟨w3_38, x3_38, y3_38, z3_38, e25, hv3_38⟩ : isTurn _ (f 38) w1 := hF 25 (by simp)
      clear hF
      generalize f 13 = v13 at *; generalize f 14 = v14 at *; generalize f 15 = v15 at *; generalize f 16 = v16 at *; generalize f 17 = v17 at *; generalize f 18 = v18 at *; generalize f 19 = v19 at *; generalize f 20 = v20 at *; generalize f 21 = v21 at *; generalize f 22 = v22 at *; generalize f 23 = v23 at *; generalize f 24 = v24 at *; generalize f 25 = v25 at *; generalize f 26 = v26 at *; generalize f 27 = v27 at *; generalize f 28 = v28 at *; generalize f 29 = v29 at *; generalize f 30 = v30 at *; generalize f 31 = v31 at *; generalize f 32 = v32 at *; generalize f 33 = v33 at *; generalize f 34 = v34 at *; generalize f 35 = v35 at *; generalize f 36 = v36 at *; generalize f 37 = v37 at *; generalize f 38 = v38 at *
      subst e25
      have Lw3hp0 := hp0.lt; have Lw3hp1 := hp1.lt; have Lw3hp2 := hp2.lt
      obtain ⟨⟨c0_0, c0_1, c0_2, c0_3⟩, fz0⟩ := id hp0
      obtain ⟨⟨c1_0, c1_1, c1_2, c1_3⟩, fz1⟩ := id hp1
      obtain ⟨⟨c2_0, c2_1, c2_2, c2_3⟩, fz2⟩ := id hp2
      change wpAny _ _ _ _ (0 + 1) _ _ _
      refine wpAny_all (rs := [26]) (by kernel_rfl) (by simp) ?_
      intro i hi
      obtain rfl : i = 26 := by simpa using hi
      clear hi
      refine wpOp_step rfl (fun K hK => ?_)
      go_simp
      refine hK _ _ (wpAny_done (by kernel_rfl) ?_ _)
      clear hK K
      go_wp2_with fail
      apply ret_turn; exact hv3_38.w; exact hv3_38.x; exact hv3_38.y; exact hv3_38.z; simp [results, Try.results29, go_sem, *]; rfl; (repeat (first | exact Below.refl _ _ | (refine below_drewN ?_ _) | (refine Below.drew ?_) | (refine Below.setCell ?_ (by first | omega | (simp; try omega)) _) | (refine Below.alloc ?_ (by first | omega | (simp; try omega)) _) | (refine Below.trans ?_ (Below.mono (by assumption) (by first | omega | (simp; try omega))))))
  | true =>
    have hcls : nearC Ct Cr Cs = nearOf Ct (oppC Cr) Cs := by unfold nearC oppIf; simp [q1]
    rw [hcls]; clear hcls
    go_enter Try.func29, Try.ntmps29
    go_upto_region 1 with fail
    refine wp_name (fun wr => HasF4 wr w.heap.size tw tx ty tz ∧ HasF4 wr (w.heap.size + 1) rw rx ry rz ∧ HasF4 wr (w.heap.size + 2) 0 0 0 0 ∧ Below w.heap.size w wr) ⟨⟨⟨by go_simp, by go_simp, by go_simp, by go_simp⟩, fun o => by go_simp⟩, ⟨⟨by go_simp, by go_simp, by go_simp, by go_simp⟩, fun o => by go_simp⟩, ⟨⟨by go_simp, by go_simp, by go_simp, by go_simp⟩, fun o => by go_simp⟩, by (repeat (first | exact Below.refl _ _ | (refine below_drewN ?_ _) | (refine Below.drew ?_) | (refine Below.setCell ?_ (by first | omega | (simp; try omega)) _) | (refine Below.alloc ?_ (by first | omega | (simp; try omega)) _) | (refine Below.trans ?_ (Below.mono (by assumption) (by first | omega | (simp; try omega))))))⟩ ?_
    rintro W1 ⟨hp0, hp1, hp2, hbel⟩
    have LW1hp0 := hp0.lt; have LW1hp1 := hp1.lt; have LW1hp2 := hp2.lt; have SW1 := hbel.size
    obtain ⟨⟨c0_0, c0_1, c0_2, c0_3⟩, fz0⟩ := id hp0
    obtain ⟨⟨c1_0, c1_1, c1_2, c1_3⟩, fz1⟩ := id hp1
    obtain ⟨⟨c2_0, c2_1, c2_2, c2_3⟩, fz2⟩ := id hp2
    go_wp2_with fail
    refine (c_impl_InnerOfTurns ht hr _).mono ?_
    rintro e W1c ⟨⟨r1, rfl, hv1⟩, hb⟩
    clear c0_0 c0_1 c0_2 c0_3 c1_0 c1_1 c1_2 c1_3 c2_0 c2_1 c2_2 c2_3 fz0 fz1 fz2
    replace hp0 := hp0.below hb
    replace hp1 := hp1.below hb
    replace hp2 := hp2.below hb
    replace hbel := hbel.trans (hb.mono hbel.size)
    clear hb
    have LW1chp0 := hp0.lt; have LW1chp1 := hp1.lt; have LW1chp2 := hp2.lt; have SW1c := hbel.size
    have hq2 : (FloatKind.f32.format.order r1 0 == some .lt) = true := by rw [order_fv hv1 (fvc rfl : Fv .f32 0 (some 0))]; exact q1
    obtain ⟨⟨c0_0, c0_1, c0_2, c0_3⟩, fz0⟩ := id hp0
    obtain ⟨⟨c1_0, c1_1, c1_2, c1_3⟩, fz1⟩ := id hp1
    obtain ⟨⟨c2_0, c2_1, c2_2, c2_3⟩, fz2⟩ := id hp2
    go_upto_region 2 with fail
    clear c0_0 c0_1 c0_2 c0_3 c1_0 c1_1 c1_2 c1_3 c2_0 c2_1 c2_2 c2_3 fz0 fz1 fz2
    obtain ⟨⟨c0_0, c0_1, c0_2, c0_3⟩, fz0⟩ := id hp0
    obtain ⟨⟨c1_0, c1_1, c1_2, c1_3⟩, fz1⟩ := id hp1
    obtain ⟨⟨c2_0, c2_1, c2_2, c2_3⟩, fz2⟩ := id hp2
    go_wp2_with fail
    refine (c_Turn_opposite hr _).mono ?_
    rintro e W3c ⟨⟨w3, x3, y3, z3, rfl, hv3⟩, hb⟩
    clear c0_0 c0_1 c0_2 c0_3 c1_0 c1_1 c1_2 c1_3 c2_0 c2_1 c2_2 c2_3 fz0 fz1 fz2
    replace hp0 := hp0.below hb
    replace hp1 := hp1.below hb
    replace hp2 := hp2.below hb
    replace hbel := hbel.trans (hb.mono hbel.size)
    clear hb
    have LW3chp0 := hp0.lt; have LW3chp1 := hp1.lt; have LW3chp2 := hp2.lt; have SW3c := hbel.size
    obtain ⟨⟨c0_0, c0_1, c0_2, c0_3⟩, fz0⟩ := id hp0
    obtain ⟨⟨c1_0, c1_1, c1_2, c1_3⟩, fz1⟩ := id hp1
    obtain ⟨⟨c2_0, c2_1, c2_2, c2_3⟩, fz2⟩ := id hp2
    go_upto_region 3 with fail
    refine wp_name (fun wr => HasF4 wr w.heap.size tw tx ty tz ∧ HasF4 wr (w.heap.size + 1) w3 x3 y3 z3 ∧ HasF4 wr (w.heap.size + 2) 0 0 0 0 ∧ Below w.heap.size w wr) ⟨by (repeat (first | assumption | (refine HasF3.set ?_ _ _ (by first | omega | (simp; try omega))) | (refine HasF4.set ?_ _ _ (by first | omega | (simp; try omega))) | (refine HasF3.alloc ?_ _) | (refine HasF4.alloc ?_ _) | (refine HasF3.drewN ?_ _) | (refine HasF4.drewN ?_ _))), ⟨⟨by first | simp | go_simp, by first | simp | go_simp, by first | simp | go_simp, by first | simp | go_simp⟩, fun o => by simp [*]⟩, by (repeat (first | assumption | (refine HasF3.set ?_ _ _ (by first | omega | (simp; try omega))) | (refine HasF4.set ?_ _ _ (by first | omega | (simp; try omega))) | (refine HasF3.alloc ?_ _) | (refine HasF4.alloc ?_ _) | (refine HasF3.drewN ?_ _) | (refine HasF4.drewN ?_ _))), by (repeat (first | exact Below.refl _ _ | (refine below_drewN ?_ _) | (refine Below.drew ?_) | (refine Below.setCell ?_ (by first | omega | (simp; try omega)) _) | (refine Below.alloc ?_ (by first | omega | (simp; try omega)) _) | (refine Below.trans ?_ (Below.mono (by assumption) (by first | omega | (simp; try omega))))))⟩ ?_
    clear hbel hp0 hp1 hp2 c0_0 c0_1 c0_2 c0_3 c1_0 c1_1 c1_2 c1_3 c2_0 c2_1 c2_2 c2_3 fz0 fz1 fz2
    rintro W4n ⟨hp0, hp1, hp2, hbel⟩
    have LW4nhp0 := hp0.lt; have LW4nhp1 := hp1.lt; have LW4nhp2 := hp2.lt; have SW4n := hbel.size
    refine wp_region_drawn [(13, isV (.pointer (some ⟨w.heap.size, 0, none⟩))), (14, isV (.float .f32 tw)), (15, isV (.pointer (some ⟨(w.heap.size + 1), 0, none⟩))), (16, isV (.float .f32 w3)), (17, isV (.float .f32 s)), (18, isFlt .f32 (stepC ((Ct).w) ((oppC (Cr)).w) (Cs))), (19, isV (.pointer (some ⟨w.heap.size, 1, none⟩))), (20, isV (.float .f32 tx)), (21, isV (.pointer (some ⟨(w.heap.size + 1), 1, none⟩))), (22, isV (.float .f32 x3)), (23, isV (.float .f32 s)), (24, isFlt .f32 (stepC ((Ct).x) ((oppC (Cr)).x) (Cs))), (25, isV (.pointer (some ⟨w.heap.size, 2, none⟩))), (26, isV (.float .f32 ty)), (27, isV (.pointer (some ⟨(w.heap.size + 1), 2, none⟩))), (28, isV (.float .f32 y3)), (29, isV (.float .f32 s)), (30, isFlt .f32 (stepC ((Ct).y) ((oppC (Cr)).y) (Cs))), (31, isV (.pointer (some ⟨w.heap.size, 3, none⟩))), (32, isV (.float .f32 tz)), (33, isV (.pointer (some ⟨(w.heap.size + 1), 3, none⟩))), (34, isV (.float .f32 z3)), (35, isV (.float .f32 s)), (36, isFlt .f32 (stepC ((Ct).z) ((oppC (Cr)).z) (Cs))), (37, isTurn ((⟨stepC ((Ct).w) ((oppC (Cr)).w) (Cs), stepC ((Ct).x) ((oppC (Cr)).x) (Cs), stepC ((Ct).y) ((oppC (Cr)).y) (Cs), stepC ((Ct).z) ((oppC (Cr)).z) (Cs)⟩ : V4))), (38, isTurn (mendC ((⟨stepC ((Ct).w) ((oppC (Cr)).w) (Cs), stepC ((Ct).x) ((oppC (Cr)).x) (Cs), stepC ((Ct).y) ((oppC (Cr)).y) (Cs), stepC ((Ct).z) ((oppC (Cr)).z) (Cs)⟩ : V4))))]
      (fun wr => HasF4 wr w.heap.size tw tx ty tz ∧ HasF4 wr (w.heap.size + 1) w3 x3 y3 z3 ∧ HasF4 wr (w.heap.size + 2) 0 0 0 0 ∧ Below W4n.heap.size W4n wr)
      (by kernel_rfl) (by kernel_rfl) (by kernel_rfl) (by kernel_rfl) (Nat.le_of_ble_eq_true (by kernel_rfl)) (by kernel_rfl) ?_ (fun _ _ hb h => ⟨h.1.below hb, h.2.1.below hb, h.2.2.1.below hb, h.2.2.2.trans (hb.mono h.2.2.2.size)⟩) ⟨hp0, hp1, hp2, (Below.refl _ _).drew⟩ ?_ ?_
    · intro p hp
      simp only [List.mem_cons, List.not_mem_nil, or_false] at hp
      rcases hp with rfl | rfl | rfl | rfl | rfl | rfl | rfl | rfl | rfl | rfl | rfl | rfl | rfl | rfl | rfl | rfl | rfl | rfl | rfl | rfl | rfl | rfl | rfl | rfl | rfl | rfl <;> first | exact mono_isV _ | exact mono_isVec _ | exact mono_isTurn _ | exact mono_isFlt _ _ | exact mono_isOwn3 _ | exact mono_isOwn4 _
    · intro i o hi ho f w1 hI hdep
      simp only [List.map_cons, List.map_nil, mix, List.contains_cons, List.contains_nil, Nat.reduceBEq, Bool.or_true, Bool.or_false, Bool.false_eq_true, if_true, if_false, Nat.reduceAdd, Nat.zero_add]
      have hcase : i = 0 ∨ i = 1 ∨ i = 2 ∨ i = 3 ∨ i = 4 ∨ i = 5 ∨ i = 6 ∨ i = 7 ∨ i = 8 ∨ i = 9 ∨ i = 10 ∨ i = 11 ∨ i = 12 ∨ i = 13 ∨ i = 14 ∨ i = 15 ∨ i = 16 ∨ i = 17 ∨ i = 18 ∨ i = 19 ∨ i = 20 ∨ i = 21 ∨ i = 22 ∨ i = 23 ∨ i = 24 ∨ i = 25 := by simp at hi; omega
      obtain ⟨⟨⟨c0_0, c0_1, c0_2, c0_3⟩, fz0⟩, ⟨⟨c1_0, c1_1, c1_2, c1_3⟩, fz1⟩, ⟨⟨c2_0, c2_1, c2_2, c2_3⟩, fz2⟩, hb1⟩ := hI
      have hsz := hb1.size
      rcases hcase with rfl | rfl | rfl | rfl | rfl | rfl | rfl | rfl | rfl | rfl | rfl | rfl | rfl | rfl | rfl | rfl | rfl | rfl | rfl | rfl | rfl | rfl | rfl | rfl | rfl | rfl
      · obtain rfl := Option.some.inj ho
        clear hdep ho hi
        generalize f 13 = v13 at *; generalize f 14 = v14 at *; generalize f 15 = v15 at *; generalize f 16 = v16 at *; generalize f 17 = v17 at *; generalize f 18 = v18 at *; generalize f 19 = v19 at *; generalize f 20 = v20 at *; generalize f 21 = v21 at *; generalize f 22 = v22 at *; generalize f 23 = v23 at *; generalize f 24 = v24 at *; generalize f 25 = v25 at *; generalize f 26 = v26 at *; generalize f 27 = v27 at *; generalize f 28 = v28 at *; generalize f 29 = v29 at *; generalize f 30 = v30 at *; generalize f 31 = v31 at *; generalize f 32 = v32 at *; generalize f 33 = v33 at *; generalize f 34 = v34 at *; generalize f 35 = v35 at *; generalize f 36 = v36 at *; generalize f 37 = v37 at *; generalize f 38 = v38 at *
        refine wpOp_step rfl (fun K hK => ?_)
        go_simp
        exact hK _ _ ⟨_, rfl, (fun p hp => by cases hp; rfl), Below.refl _ _⟩
      · obtain rfl := Option.some.inj ho
        have e0 : f 13 = (.pointer (some ⟨w.heap.size, 0, none⟩)) := hdep ⟨0, .data⟩ (by simp) rfl
        clear hdep ho hi
        generalize f 13 = v13 at *; generalize f 14 = v14 at *; generalize f 15 = v15 at *; generalize f 16 = v16 at *; generalize f 17 = v17 at *; generalize f 18 = v18 at *; generalize f 19 = v19 at *; generalize f 20 = v20 at *; generalize f 21 = v21 at *; generalize f 22 = v22 at *; generalize f 23 = v23 at *; generalize f 24 = v24 at *; generalize f 25 = v25 at *; generalize f 26 = v26 at *; generalize f 27 = v27 at *; generalize f 28 = v28 at *; generalize f 29 = v29 at *; generalize f 30 = v30 at *; generalize f 31 = v31 at *; generalize f 32 = v32 at *; generalize f 33 = v33 at *; generalize f 34 = v34 at *; generalize f 35 = v35 at *; generalize f 36 = v36 at *; generalize f 37 = v37 at *; generalize f 38 = v38 at *
        subst e0
        refine wpOp_step rfl (fun K hK => ?_)
        go_simp
        exact hK _ _ ⟨_, rfl, (fun p hp => by cases hp; rfl), Below.refl _ _⟩
      · obtain rfl := Option.some.inj ho
        clear hdep ho hi
        generalize f 13 = v13 at *; generalize f 14 = v14 at *; generalize f 15 = v15 at *; generalize f 16 = v16 at *; generalize f 17 = v17 at *; generalize f 18 = v18 at *; generalize f 19 = v19 at *; generalize f 20 = v20 at *; generalize f 21 = v21 at *; generalize f 22 = v22 at *; generalize f 23 = v23 at *; generalize f 24 = v24 at *; generalize f 25 = v25 at *; generalize f 26 = v26 at *; generalize f 27 = v27 at *; generalize f 28 = v28 at *; generalize f 29 = v29 at *; generalize f 30 = v30 at *; generalize f 31 = v31 at *; generalize f 32 = v32 at *; generalize f 33 = v33 at *; generalize f 34 = v34 at *; generalize f 35 = v35 at *; generalize f 36 = v36 at *; generalize f 37 = v37 at *; generalize f 38 = v38 at *
        refine wpOp_step rfl (fun K hK => ?_)
        go_simp
        exact hK _ _ ⟨_, rfl, (fun p hp => by cases hp; rfl), Below.refl _ _⟩
      · obtain rfl := Option.some.inj ho
        have e2 : f 15 = (.pointer (some ⟨(w.heap.size + 1), 0, none⟩)) := hdep ⟨2, .data⟩ (by simp) rfl
        clear hdep ho hi
        generalize f 13 = v13 at *; generalize f 14 = v14 at *; generalize f 15 = v15 at *; generalize f 16 = v16 at *; generalize f 17 = v17 at *; generalize f 18 = v18 at *; generalize f 19 = v19 at *; generalize f 20 = v20 at *; generalize f 21 = v21 at *; generalize f 22 = v22 at *; generalize f 23 = v23 at *; generalize f 24 = v24 at *; generalize f 25 = v25 at *; generalize f 26 = v26 at *; generalize f 27 = v27 at *; generalize f 28 = v28 at *; generalize f 29 = v29 at *; generalize f 30 = v30 at *; generalize f 31 = v31 at *; generalize f 32 = v32 at *; generalize f 33 = v33 at *; generalize f 34 = v34 at *; generalize f 35 = v35 at *; generalize f 36 = v36 at *; generalize f 37 = v37 at *; generalize f 38 = v38 at *
        subst e2
        refine wpOp_step rfl (fun K hK => ?_)
        go_simp
        exact hK _ _ ⟨_, rfl, (fun p hp => by cases hp; rfl), Below.refl _ _⟩
      · obtain rfl := Option.some.inj ho
        clear hdep ho hi
        generalize f 13 = v13 at *; generalize f 14 = v14 at *; generalize f 15 = v15 at *; generalize f 16 = v16 at *; generalize f 17 = v17 at *; generalize f 18 = v18 at *; generalize f 19 = v19 at *; generalize f 20 = v20 at *; generalize f 21 = v21 at *; generalize f 22 = v22 at *; generalize f 23 = v23 at *; generalize f 24 = v24 at *; generalize f 25 = v25 at *; generalize f 26 = v26 at *; generalize f 27 = v27 at *; generalize f 28 = v28 at *; generalize f 29 = v29 at *; generalize f 30 = v30 at *; generalize f 31 = v31 at *; generalize f 32 = v32 at *; generalize f 33 = v33 at *; generalize f 34 = v34 at *; generalize f 35 = v35 at *; generalize f 36 = v36 at *; generalize f 37 = v37 at *; generalize f 38 = v38 at *
        refine wpOp_step rfl (fun K hK => ?_)
        go_simp
        exact hK _ _ ⟨_, rfl, (fun p hp => by cases hp; rfl), Below.refl _ _⟩
      · obtain rfl := Option.some.inj ho
        have e1 : f 14 = (.float .f32 tw) := hdep ⟨1, .data⟩ (by simp) rfl
        have e3 : f 16 = (.float .f32 w3) := hdep ⟨3, .data⟩ (by simp) rfl
        have e4 : f 17 = (.float .f32 s) := hdep ⟨4, .data⟩ (by simp) rfl
        clear hdep ho hi
        generalize f 13 = v13 at *; generalize f 14 = v14 at *; generalize f 15 = v15 at *; generalize f 16 = v16 at *; generalize f 17 = v17 at *; generalize f 18 = v18 at *; generalize f 19 = v19 at *; generalize f 20 = v20 at *; generalize f 21 = v21 at *; generalize f 22 = v22 at *; generalize f 23 = v23 at *; generalize f 24 = v24 at *; generalize f 25 = v25 at *; generalize f 26 = v26 at *; generalize f 27 = v27 at *; generalize f 28 = v28 at *; generalize f 29 = v29 at *; generalize f 30 = v30 at *; generalize f 31 = v31 at *; generalize f 32 = v32 at *; generalize f 33 = v33 at *; generalize f 34 = v34 at *; generalize f 35 = v35 at *; generalize f 36 = v36 at *; generalize f 37 = v37 at *; generalize f 38 = v38 at *
        subst e1 e3 e4
        refine wpOp_step rfl (fun K hK => ?_)
        go_simp
        refine (c_impl_between ht.w hv3.w hs _).mono ?_
        rintro e w' ⟨⟨y0, rfl, hv⟩, hb⟩
        exact hK _ _ ⟨_, rfl, (fun p hp => by cases hp; exact ⟨_, rfl, hv⟩), hb⟩
      · obtain rfl := Option.some.inj ho
        clear hdep ho hi
        generalize f 13 = v13 at *; generalize f 14 = v14 at *; generalize f 15 = v15 at *; generalize f 16 = v16 at *; generalize f 17 = v17 at *; generalize f 18 = v18 at *; generalize f 19 = v19 at *; generalize f 20 = v20 at *; generalize f 21 = v21 at *; generalize f 22 = v22 at *; generalize f 23 = v23 at *; generalize f 24 = v24 at *; generalize f 25 = v25 at *; generalize f 26 = v26 at *; generalize f 27 = v27 at *; generalize f 28 = v28 at *; generalize f 29 = v29 at *; generalize f 30 = v30 at *; generalize f 31 = v31 at *; generalize f 32 = v32 at *; generalize f 33 = v33 at *; generalize f 34 = v34 at *; generalize f 35 = v35 at *; generalize f 36 = v36 at *; generalize f 37 = v37 at *; generalize f 38 = v38 at *
        refine wpOp_step rfl (fun K hK => ?_)
        go_simp
        exact hK _ _ ⟨_, rfl, (fun p hp => by cases hp; rfl), Below.refl _ _⟩
      · obtain rfl := Option.some.inj ho
        have e6 : f 19 = (.pointer (some ⟨w.heap.size, 1, none⟩)) := hdep ⟨6, .data⟩ (by simp) rfl
        clear hdep ho hi
        generalize f 13 = v13 at *; generalize f 14 = v14 at *; generalize f 15 = v15 at *; generalize f 16 = v16 at *; generalize f 17 = v17 at *; generalize f 18 = v18 at *; generalize f 19 = v19 at *; generalize f 20 = v20 at *; generalize f 21 = v21 at *; generalize f 22 = v22 at *; generalize f 23 = v23 at *; generalize f 24 = v24 at *; generalize f 25 = v25 at *; generalize f 26 = v26 at *; generalize f 27 = v27 at *; generalize f 28 = v28 at *; generalize f 29 = v29 at *; generalize f 30 = v30 at *; generalize f 31 = v31 at *; generalize f 32 = v32 at *; generalize f 33 = v33 at *; generalize f 34 = v34 at *; generalize f 35 = v35 at *; generalize f 36 = v36 at *; generalize f 37 = v37 at *; generalize f 38 = v38 at *
        subst e6
        refine wpOp_step rfl (fun K hK => ?_)
        go_simp
        exact hK _ _ ⟨_, rfl, (fun p hp => by cases hp; rfl), Below.refl _ _⟩
      · obtain rfl := Option.some.inj ho
        clear hdep ho hi
        generalize f 13 = v13 at *; generalize f 14 = v14 at *; generalize f 15 = v15 at *; generalize f 16 = v16 at *; generalize f 17 = v17 at *; generalize f 18 = v18 at *; generalize f 19 = v19 at *; generalize f 20 = v20 at *; generalize f 21 = v21 at *; generalize f 22 = v22 at *; generalize f 23 = v23 at *; generalize f 24 = v24 at *; generalize f 25 = v25 at *; generalize f 26 = v26 at *; generalize f 27 = v27 at *; generalize f 28 = v28 at *; generalize f 29 = v29 at *; generalize f 30 = v30 at *; generalize f 31 = v31 at *; generalize f 32 = v32 at *; generalize f 33 = v33 at *; generalize f 34 = v34 at *; generalize f 35 = v35 at *; generalize f 36 = v36 at *; generalize f 37 = v37 at *; generalize f 38 = v38 at *
        refine wpOp_step rfl (fun K hK => ?_)
        go_simp
        exact hK _ _ ⟨_, rfl, (fun p hp => by cases hp; rfl), Below.refl _ _⟩
      · obtain rfl := Option.some.inj ho
        have e8 : f 21 = (.pointer (some ⟨(w.heap.size + 1), 1, none⟩)) := hdep ⟨8, .data⟩ (by simp) rfl
        clear hdep ho hi
        generalize f 13 = v13 at *; generalize f 14 = v14 at *; generalize f 15 = v15 at *; generalize f 16 = v16 at *; generalize f 17 = v17 at *; generalize f 18 = v18 at *; generalize f 19 = v19 at *; generalize f 20 = v20 at *; generalize f 21 = v21 at *; generalize f 22 = v22 at *; generalize f 23 = v23 at *; generalize f 24 = v24 at *; generalize f 25 = v25 at *; generalize f 26 = v26 at *; generalize f 27 = v27 at *; generalize f 28 = v28 at *; generalize f 29 = v29 at *; generalize f 30 = v30 at *; generalize f 31 = v31 at *; generalize f 32 = v32 at *; generalize f 33 = v33 at *; generalize f 34 = v34 at *; generalize f 35 = v35 at *; generalize f 36 = v36 at *; generalize f 37 = v37 at *; generalize f 38 = v38 at *
        subst e8
        refine wpOp_step rfl (fun K hK => ?_)
        go_simp
        exact hK _ _ ⟨_, rfl, (fun p hp => by cases hp; rfl), Below.refl _ _⟩
      · obtain rfl := Option.some.inj ho
        clear hdep ho hi
        generalize f 13 = v13 at *; generalize f 14 = v14 at *; generalize f 15 = v15 at *; generalize f 16 = v16 at *; generalize f 17 = v17 at *; generalize f 18 = v18 at *; generalize f 19 = v19 at *; generalize f 20 = v20 at *; generalize f 21 = v21 at *; generalize f 22 = v22 at *; generalize f 23 = v23 at *; generalize f 24 = v24 at *; generalize f 25 = v25 at *; generalize f 26 = v26 at *; generalize f 27 = v27 at *; generalize f 28 = v28 at *; generalize f 29 = v29 at *; generalize f 30 = v30 at *; generalize f 31 = v31 at *; generalize f 32 = v32 at *; generalize f 33 = v33 at *; generalize f 34 = v34 at *; generalize f 35 = v35 at *; generalize f 36 = v36 at *; generalize f 37 = v37 at *; generalize f 38 = v38 at *
        refine wpOp_step rfl (fun K hK => ?_)
        go_simp
        exact hK _ _ ⟨_, rfl, (fun p hp => by cases hp; rfl), Below.refl _ _⟩
      · obtain rfl := Option.some.inj ho
        have e7 : f 20 = (.float .f32 tx) := hdep ⟨7, .data⟩ (by simp) rfl
        have e9 : f 22 = (.float .f32 x3) := hdep ⟨9, .data⟩ (by simp) rfl
        have e10 : f 23 = (.float .f32 s) := hdep ⟨10, .data⟩ (by simp) rfl
        clear hdep ho hi
        generalize f 13 = v13 at *; generalize f 14 = v14 at *; generalize f 15 = v15 at *; generalize f 16 = v16 at *; generalize f 17 = v17 at *; generalize f 18 = v18 at *; generalize f 19 = v19 at *; generalize f 20 = v20 at *; generalize f 21 = v21 at *; generalize f 22 = v22 at *; generalize f 23 = v23 at *; generalize f 24 = v24 at *; generalize f 25 = v25 at *; generalize f 26 = v26 at *; generalize f 27 = v27 at *; generalize f 28 = v28 at *; generalize f 29 = v29 at *; generalize f 30 = v30 at *; generalize f 31 = v31 at *; generalize f 32 = v32 at *; generalize f 33 = v33 at *; generalize f 34 = v34 at *; generalize f 35 = v35 at *; generalize f 36 = v36 at *; generalize f 37 = v37 at *; generalize f 38 = v38 at *
        subst e7 e9 e10
        refine wpOp_step rfl (fun K hK => ?_)
        go_simp
        refine (c_impl_between ht.x hv3.x hs _).mono ?_
        rintro e w' ⟨⟨y0, rfl, hv⟩, hb⟩
        exact hK _ _ ⟨_, rfl, (fun p hp => by cases hp; exact ⟨_, rfl, hv⟩), hb⟩
      · obtain rfl := Option.some.inj ho
        clear hdep ho hi
        generalize f 13 = v13 at *; generalize f 14 = v14 at *; generalize f 15 = v15 at *; generalize f 16 = v16 at *; generalize f 17 = v17 at *; generalize f 18 = v18 at *; generalize f 19 = v19 at *; generalize f 20 = v20 at *; generalize f 21 = v21 at *; generalize f 22 = v22 at *; generalize f 23 = v23 at *; generalize f 24 = v24 at *; generalize f 25 = v25 at *; generalize f 26 = v26 at *; generalize f 27 = v27 at *; generalize f 28 = v28 at *; generalize f 29 = v29 at *; generalize f 30 = v30 at *; generalize f 31 = v31 at *; generalize f 32 = v32 at *; generalize f 33 = v33 at *; generalize f 34 = v34 at *; generalize f 35 = v35 at *; generalize f 36 = v36 at *; generalize f 37 = v37 at *; generalize f 38 = v38 at *
        refine wpOp_step rfl (fun K hK => ?_)
        go_simp
        exact hK _ _ ⟨_, rfl, (fun p hp => by cases hp; rfl), Below.refl _ _⟩
      · obtain rfl := Option.some.inj ho
        have e12 : f 25 = (.pointer (some ⟨w.heap.size, 2, none⟩)) := hdep ⟨12, .data⟩ (by simp) rfl
        clear hdep ho hi
        generalize f 13 = v13 at *; generalize f 14 = v14 at *; generalize f 15 = v15 at *; generalize f 16 = v16 at *; generalize f 17 = v17 at *; generalize f 18 = v18 at *; generalize f 19 = v19 at *; generalize f 20 = v20 at *; generalize f 21 = v21 at *; generalize f 22 = v22 at *; generalize f 23 = v23 at *; generalize f 24 = v24 at *; generalize f 25 = v25 at *; generalize f 26 = v26 at *; generalize f 27 = v27 at *; generalize f 28 = v28 at *; generalize f 29 = v29 at *; generalize f 30 = v30 at *; generalize f 31 = v31 at *; generalize f 32 = v32 at *; generalize f 33 = v33 at *; generalize f 34 = v34 at *; generalize f 35 = v35 at *; generalize f 36 = v36 at *; generalize f 37 = v37 at *; generalize f 38 = v38 at *
        subst e12
        refine wpOp_step rfl (fun K hK => ?_)
        go_simp
        exact hK _ _ ⟨_, rfl, (fun p hp => by cases hp; rfl), Below.refl _ _⟩
      · obtain rfl := Option.some.inj ho
        clear hdep ho hi
        generalize f 13 = v13 at *; generalize f 14 = v14 at *; generalize f 15 = v15 at *; generalize f 16 = v16 at *; generalize f 17 = v17 at *; generalize f 18 = v18 at *; generalize f 19 = v19 at *; generalize f 20 = v20 at *; generalize f 21 = v21 at *; generalize f 22 = v22 at *; generalize f 23 = v23 at *; generalize f 24 = v24 at *; generalize f 25 = v25 at *; generalize f 26 = v26 at *; generalize f 27 = v27 at *; generalize f 28 = v28 at *; generalize f 29 = v29 at *; generalize f 30 = v30 at *; generalize f 31 = v31 at *; generalize f 32 = v32 at *; generalize f 33 = v33 at *; generalize f 34 = v34 at *; generalize f 35 = v35 at *; generalize f 36 = v36 at *; generalize f 37 = v37 at *; generalize f 38 = v38 at *
        refine wpOp_step rfl (fun K hK => ?_)
        go_simp
        exact hK _ _ ⟨_, rfl, (fun p hp => by cases hp; rfl), Below.refl _ _⟩
      · obtain rfl := Option.some.inj ho
        have e14 : f 27 = (.pointer (some ⟨(w.heap.size + 1), 2, none⟩)) := hdep ⟨14, .data⟩ (by simp) rfl
        clear hdep ho hi
        generalize f 13 = v13 at *; generalize f 14 = v14 at *; generalize f 15 = v15 at *; generalize f 16 = v16 at *; generalize f 17 = v17 at *; generalize f 18 = v18 at *; generalize f 19 = v19 at *; generalize f 20 = v20 at *; generalize f 21 = v21 at *; generalize f 22 = v22 at *; generalize f 23 = v23 at *; generalize f 24 = v24 at *; generalize f 25 = v25 at *; generalize f 26 = v26 at *; generalize f 27 = v27 at *; generalize f 28 = v28 at *; generalize f 29 = v29 at *; generalize f 30 = v30 at *; generalize f 31 = v31 at *; generalize f 32 = v32 at *; generalize f 33 = v33 at *; generalize f 34 = v34 at *; generalize f 35 = v35 at *; generalize f 36 = v36 at *; generalize f 37 = v37 at *; generalize f 38 = v38 at *
        subst e14
        refine wpOp_step rfl (fun K hK => ?_)
        go_simp
        exact hK _ _ ⟨_, rfl, (fun p hp => by cases hp; rfl), Below.refl _ _⟩
      · obtain rfl := Option.some.inj ho
        clear hdep ho hi
        generalize f 13 = v13 at *; generalize f 14 = v14 at *; generalize f 15 = v15 at *; generalize f 16 = v16 at *; generalize f 17 = v17 at *; generalize f 18 = v18 at *; generalize f 19 = v19 at *; generalize f 20 = v20 at *; generalize f 21 = v21 at *; generalize f 22 = v22 at *; generalize f 23 = v23 at *; generalize f 24 = v24 at *; generalize f 25 = v25 at *; generalize f 26 = v26 at *; generalize f 27 = v27 at *; generalize f 28 = v28 at *; generalize f 29 = v29 at *; generalize f 30 = v30 at *; generalize f 31 = v31 at *; generalize f 32 = v32 at *; generalize f 33 = v33 at *; generalize f 34 = v34 at *; generalize f 35 = v35 at *; generalize f 36 = v36 at *; generalize f 37 = v37 at *; generalize f 38 = v38 at *
        refine wpOp_step rfl (fun K hK => ?_)
        go_simp
        exact hK _ _ ⟨_, rfl, (fun p hp => by cases hp; rfl), Below.refl _ _⟩
      · obtain rfl := Option.some.inj ho
        have e13 : f 26 = (.float .f32 ty) := hdep ⟨13, .data⟩ (by simp) rfl
        have e15 : f 28 = (.float .f32 y3) := hdep ⟨15, .data⟩ (by simp) rfl
        have e16 : f 29 = (.float .f32 s) := hdep ⟨16, .data⟩ (by simp) rfl
        clear hdep ho hi
        generalize f 13 = v13 at *; generalize f 14 = v14 at *; generalize f 15 = v15 at *; generalize f 16 = v16 at *; generalize f 17 = v17 at *; generalize f 18 = v18 at *; generalize f 19 = v19 at *; generalize f 20 = v20 at *; generalize f 21 = v21 at *; generalize f 22 = v22 at *; generalize f 23 = v23 at *; generalize f 24 = v24 at *; generalize f 25 = v25 at *; generalize f 26 = v26 at *; generalize f 27 = v27 at *; generalize f 28 = v28 at *; generalize f 29 = v29 at *; generalize f 30 = v30 at *; generalize f 31 = v31 at *; generalize f 32 = v32 at *; generalize f 33 = v33 at *; generalize f 34 = v34 at *; generalize f 35 = v35 at *; generalize f 36 = v36 at *; generalize f 37 = v37 at *; generalize f 38 = v38 at *
        subst e13 e15 e16
        refine wpOp_step rfl (fun K hK => ?_)
        go_simp
        refine (c_impl_between ht.y hv3.y hs _).mono ?_
        rintro e w' ⟨⟨y0, rfl, hv⟩, hb⟩
        exact hK _ _ ⟨_, rfl, (fun p hp => by cases hp; exact ⟨_, rfl, hv⟩), hb⟩
      · obtain rfl := Option.some.inj ho
        clear hdep ho hi
        generalize f 13 = v13 at *; generalize f 14 = v14 at *; generalize f 15 = v15 at *; generalize f 16 = v16 at *; generalize f 17 = v17 at *; generalize f 18 = v18 at *; generalize f 19 = v19 at *; generalize f 20 = v20 at *; generalize f 21 = v21 at *; generalize f 22 = v22 at *; generalize f 23 = v23 at *; generalize f 24 = v24 at *; generalize f 25 = v25 at *; generalize f 26 = v26 at *; generalize f 27 = v27 at *; generalize f 28 = v28 at *; generalize f 29 = v29 at *; generalize f 30 = v30 at *; generalize f 31 = v31 at *; generalize f 32 = v32 at *; generalize f 33 = v33 at *; generalize f 34 = v34 at *; generalize f 35 = v35 at *; generalize f 36 = v36 at *; generalize f 37 = v37 at *; generalize f 38 = v38 at *
        refine wpOp_step rfl (fun K hK => ?_)
        go_simp
        exact hK _ _ ⟨_, rfl, (fun p hp => by cases hp; rfl), Below.refl _ _⟩
      · obtain rfl := Option.some.inj ho
        have e18 : f 31 = (.pointer (some ⟨w.heap.size, 3, none⟩)) := hdep ⟨18, .data⟩ (by simp) rfl
        clear hdep ho hi
        generalize f 13 = v13 at *; generalize f 14 = v14 at *; generalize f 15 = v15 at *; generalize f 16 = v16 at *; generalize f 17 = v17 at *; generalize f 18 = v18 at *; generalize f 19 = v19 at *; generalize f 20 = v20 at *; generalize f 21 = v21 at *; generalize f 22 = v22 at *; generalize f 23 = v23 at *; generalize f 24 = v24 at *; generalize f 25 = v25 at *; generalize f 26 = v26 at *; generalize f 27 = v27 at *; generalize f 28 = v28 at *; generalize f 29 = v29 at *; generalize f 30 = v30 at *; generalize f 31 = v31 at *; generalize f 32 = v32 at *; generalize f 33 = v33 at *; generalize f 34 = v34 at *; generalize f 35 = v35 at *; generalize f 36 = v36 at *; generalize f 37 = v37 at *; generalize f 38 = v38 at *
        subst e18
        refine wpOp_step rfl (fun K hK => ?_)
        go_simp
        exact hK _ _ ⟨_, rfl, (fun p hp => by cases hp; rfl), Below.refl _ _⟩
      · obtain rfl := Option.some.inj ho
        clear hdep ho hi
        generalize f 13 = v13 at *; generalize f 14 = v14 at *; generalize f 15 = v15 at *; generalize f 16 = v16 at *; generalize f 17 = v17 at *; generalize f 18 = v18 at *; generalize f 19 = v19 at *; generalize f 20 = v20 at *; generalize f 21 = v21 at *; generalize f 22 = v22 at *; generalize f 23 = v23 at *; generalize f 24 = v24 at *; generalize f 25 = v25 at *; generalize f 26 = v26 at *; generalize f 27 = v27 at *; generalize f 28 = v28 at *; generalize f 29 = v29 at *; generalize f 30 = v30 at *; generalize f 31 = v31 at *; generalize f 32 = v32 at *; generalize f 33 = v33 at *; generalize f 34 = v34 at *; generalize f 35 = v35 at *; generalize f 36 = v36 at *; generalize f 37 = v37 at *; generalize f 38 = v38 at *
        refine wpOp_step rfl (fun K hK => ?_)
        go_simp
        exact hK _ _ ⟨_, rfl, (fun p hp => by cases hp; rfl), Below.refl _ _⟩
      · obtain rfl := Option.some.inj ho
        have e20 : f 33 = (.pointer (some ⟨(w.heap.size + 1), 3, none⟩)) := hdep ⟨20, .data⟩ (by simp) rfl
        clear hdep ho hi
        generalize f 13 = v13 at *; generalize f 14 = v14 at *; generalize f 15 = v15 at *; generalize f 16 = v16 at *; generalize f 17 = v17 at *; generalize f 18 = v18 at *; generalize f 19 = v19 at *; generalize f 20 = v20 at *; generalize f 21 = v21 at *; generalize f 22 = v22 at *; generalize f 23 = v23 at *; generalize f 24 = v24 at *; generalize f 25 = v25 at *; generalize f 26 = v26 at *; generalize f 27 = v27 at *; generalize f 28 = v28 at *; generalize f 29 = v29 at *; generalize f 30 = v30 at *; generalize f 31 = v31 at *; generalize f 32 = v32 at *; generalize f 33 = v33 at *; generalize f 34 = v34 at *; generalize f 35 = v35 at *; generalize f 36 = v36 at *; generalize f 37 = v37 at *; generalize f 38 = v38 at *
        subst e20
        refine wpOp_step rfl (fun K hK => ?_)
        go_simp
        exact hK _ _ ⟨_, rfl, (fun p hp => by cases hp; rfl), Below.refl _ _⟩
      · obtain rfl := Option.some.inj ho
        clear hdep ho hi
        generalize f 13 = v13 at *; generalize f 14 = v14 at *; generalize f 15 = v15 at *; generalize f 16 = v16 at *; generalize f 17 = v17 at *; generalize f 18 = v18 at *; generalize f 19 = v19 at *; generalize f 20 = v20 at *; generalize f 21 = v21 at *; generalize f 22 = v22 at *; generalize f 23 = v23 at *; generalize f 24 = v24 at *; generalize f 25 = v25 at *; generalize f 26 = v26 at *; generalize f 27 = v27 at *; generalize f 28 = v28 at *; generalize f 29 = v29 at *; generalize f 30 = v30 at *; generalize f 31 = v31 at *; generalize f 32 = v32 at *; generalize f 33 = v33 at *; generalize f 34 = v34 at *; generalize f 35 = v35 at *; generalize f 36 = v36 at *; generalize f 37 = v37 at *; generalize f 38 = v38 at *
        refine wpOp_step rfl (fun K hK => ?_)
        go_simp
        exact hK _ _ ⟨_, rfl, (fun p hp => by cases hp; rfl), Below.refl _ _⟩
      · obtain rfl := Option.some.inj ho
        have e19 : f 32 = (.float .f32 tz) := hdep ⟨19, .data⟩ (by simp) rfl
        have e21 : f 34 = (.float .f32 z3) := hdep ⟨21, .data⟩ (by simp) rfl
        have e22 : f 35 = (.float .f32 s) := hdep ⟨22, .data⟩ (by simp) rfl
        clear hdep ho hi
        generalize f 13 = v13 at *; generalize f 14 = v14 at *; generalize f 15 = v15 at *; generalize f 16 = v16 at *; generalize f 17 = v17 at *; generalize f 18 = v18 at *; generalize f 19 = v19 at *; generalize f 20 = v20 at *; generalize f 21 = v21 at *; generalize f 22 = v22 at *; generalize f 23 = v23 at *; generalize f 24 = v24 at *; generalize f 25 = v25 at *; generalize f 26 = v26 at *; generalize f 27 = v27 at *; generalize f 28 = v28 at *; generalize f 29 = v29 at *; generalize f 30 = v30 at *; generalize f 31 = v31 at *; generalize f 32 = v32 at *; generalize f 33 = v33 at *; generalize f 34 = v34 at *; generalize f 35 = v35 at *; generalize f 36 = v36 at *; generalize f 37 = v37 at *; generalize f 38 = v38 at *
        subst e19 e21 e22
        refine wpOp_step rfl (fun K hK => ?_)
        go_simp
        refine (c_impl_between ht.z hv3.z hs _).mono ?_
        rintro e w' ⟨⟨y0, rfl, hv⟩, hb⟩
        exact hK _ _ ⟨_, rfl, (fun p hp => by cases hp; exact ⟨_, rfl, hv⟩), hb⟩
      · obtain rfl := Option.some.inj ho
        obtain ⟨r5, e5, hv5⟩ : isFlt _ _ (f 18) w1 := hdep ⟨5, .data⟩ (by simp) rfl
        obtain ⟨r11, e11, hv11⟩ : isFlt _ _ (f 24) w1 := hdep ⟨11, .data⟩ (by simp) rfl
        obtain ⟨r17, e17, hv17⟩ : isFlt _ _ (f 30) w1 := hdep ⟨17, .data⟩ (by simp) rfl
        obtain ⟨r23, e23, hv23⟩ : isFlt _ _ (f 36) w1 := hdep ⟨23, .data⟩ (by simp) rfl
        clear hdep ho hi
        generalize f 13 = v13 at *; generalize f 14 = v14 at *; generalize f 15 = v15 at *; generalize f 16 = v16 at *; generalize f 17 = v17 at *; generalize f 18 = v18 at *; generalize f 19 = v19 at *; generalize f 20 = v20 at *; generalize f 21 = v21 at *; generalize f 22 = v22 at *; generalize f 23 = v23 at *; generalize f 24 = v24 at *; generalize f 25 = v25 at *; generalize f 26 = v26 at *; generalize f 27 = v27 at *; generalize f 28 = v28 at *; generalize f 29 = v29 at *; generalize f 30 = v30 at *; generalize f 31 = v31 at *; generalize f 32 = v32 at *; generalize f 33 = v33 at *; generalize f 34 = v34 at *; generalize f 35 = v35 at *; generalize f 36 = v36 at *; generalize f 37 = v37 at *; generalize f 38 = v38 at *
        subst e5 e11 e17 e23
        refine wpOp_step rfl (fun K hK => ?_)
        go_simp
        exact hK _ _ ⟨_, rfl, (fun p hp => by cases hp; exact ⟨_, _, _, _, rfl, (⟨hv5, hv11, hv17, hv23⟩ : Fv4 r5 r11 r17 r23 ⟨stepC ((Ct).w) ((oppC (Cr)).w) (Cs), stepC ((Ct).x) ((oppC (Cr)).x) (Cs), stepC ((Ct).y) ((oppC (Cr)).y) (Cs), stepC ((Ct).z) ((oppC (Cr)).z) (Cs)⟩)⟩), Below.refl _ _⟩
      · obtain rfl := Option.some.inj ho
        obtain ⟨w24, x24, y24, z24, e24, hv24⟩ : isTurn _ (f 37) w1 := hdep ⟨24, .data⟩ (by simp) rfl
        clear hdep ho hi
        generalize f 13 = v13 at *; generalize f 14 = v14 at *; generalize f 15 = v15 at *; generalize f 16 = v16 at *; generalize f 17 = v17 at *; generalize f 18 = v18 at *; generalize f 19 = v19 at *; generalize f 20 = v20 at *; generalize f 21 = v21 at *; generalize f 22 = v22 at *; generalize f 23 = v23 at *; generalize f 24 = v24 at *; generalize f 25 = v25 at *; generalize f 26 = v26 at *; generalize f 27 = v27 at *; generalize f 28 = v28 at *; generalize f 29 = v29 at *; generalize f 30 = v30 at *; generalize f 31 = v31 at *; generalize f 32 = v32 at *; generalize f 33 = v33 at *; generalize f 34 = v34 at *; generalize f 35 = v35 at *; generalize f 36 = v36 at *; generalize f 37 = v37 at *; generalize f 38 = v38 at *
        subst e24
        refine wpOp_step rfl (fun K hK => ?_)
        go_simp
        refine (c_impl_MendTurn hv24 _).mono ?_
        rintro e w' ⟨⟨y0, y1, y2, y3, rfl, hv⟩, hb⟩
        exact hK _ _ ⟨_, rfl, (fun p hp => by cases hp; exact ⟨_, _, _, _, rfl, hv⟩), hb⟩
    · intro f w1 hI hF
      simp only [List.map_cons, List.map_nil, mix, List.contains_cons, List.contains_nil, Nat.reduceBEq, Bool.or_true, Bool.or_false, Bool.false_eq_true, if_true, if_false, Nat.reduceAdd, Nat.zero_add]
      obtain ⟨hp0, hp1, hp2, hb1⟩ := hI
      have hsz := hb1.size
      replace hbel := hbel.trans (hb1.mono hbel.size)
      obtain ⟨w5_38, x5_38, y5_38, z5_38, e25, hv5_38⟩ : isTurn _ (f 38) w1 := hF 25 (by simp)
      clear hF
      generalize f 13 = v13 at *; generalize f 14 = v14 at *; generalize f 15 = v15 at *; generalize f 16 = v16 at *; generalize f 17 = v17 at *; generalize f 18 = v18 at *; generalize f 19 = v19 at *; generalize f 20 = v20 at *; generalize f 21 = v21 at *; generalize f 22 = v22 at *; generalize f 23 = v23 at *; generalize f 24 = v24 at *; generalize f 25 = v25 at *; generalize f 26 = v26 at *; generalize f 27 = v27 at *; generalize f 28 = v28 at *; generalize f 29 = v29 at *; generalize f 30 = v30 at *; generalize f 31 = v31 at *; generalize f 32 = v32 at *; generalize f 33 = v33 at *; generalize f 34 = v34 at *; generalize f 35 = v35 at *; generalize f 36 = v36 at *; generalize f 37 = v37 at *; generalize f 38 = v38 at *
      subst e25
      have Lw5hp0 := hp0.lt; have Lw5hp1 := hp1.lt; have Lw5hp2 := hp2.lt
      obtain ⟨⟨c0_0, c0_1, c0_2, c0_3⟩, fz0⟩ := id hp0
      obtain ⟨⟨c1_0, c1_1, c1_2, c1_3⟩, fz1⟩ := id hp1
      obtain ⟨⟨c2_0, c2_1, c2_2, c2_3⟩, fz2⟩ := id hp2
      change wpAny _ _ _ _ (0 + 1) _ _ _
      refine wpAny_all (rs := [26]) (by kernel_rfl) (by simp) ?_
      intro i hi
      obtain rfl : i = 26 := by simpa using hi
      clear hi
      refine wpOp_step rfl (fun K hK => ?_)
      go_simp
      refine hK _ _ (wpAny_done (by kernel_rfl) ?_ _)
      clear hK K
      go_wp2_with fail
      apply ret_turn; exact hv5_38.w; exact hv5_38.x; exact hv5_38.y; exact hv5_38.z; simp [results, Try.results29, go_sem, *]; rfl; (repeat (first | exact Below.refl _ _ | (refine below_drewN ?_ _) | (refine Below.drew ?_) | (refine Below.setCell ?_ (by first | omega | (simp; try omega)) _) | (refine Below.alloc ?_ (by first | omega | (simp; try omega)) _) | (refine Below.trans ?_ (Below.mono (by assumption) (by first | omega | (simp; try omega))))))

set_option maxHeartbeats 4000000 in
set_option maxRecDepth 20000 in
theorem c_spec_l02Near {tw tx ty tz rw rx ry rz s : Nat} {Ct : V4} {Cr : V4} {Cs : Option Nat} (ht : Fv4 tw tx ty tz Ct) (hr : Fv4 rw rx ry rz Cr) (hs : Fv .f32 s Cs) (w : World) : Calls Try.prog 28 #[turn tw tx ty tz, turn rw rx ry rz, .float .f32 s] w (RetT (nearC Ct Cr Cs) w) := by
  go_enter Try.func28, Try.ntmps28
  go_upto_region 1 with fail
  refine wp_name (fun wr => HasF4 wr w.heap.size tw tx ty tz ∧ HasF4 wr (w.heap.size + 1) rw rx ry rz ∧ HasF4 wr (w.heap.size + 2) 0 0 0 0 ∧ Below w.heap.size w wr) ⟨⟨⟨by go_simp, by go_simp, by go_simp, by go_simp⟩, fun o => by go_simp⟩, ⟨⟨by go_simp, by go_simp, by go_simp, by go_simp⟩, fun o => by go_simp⟩, ⟨⟨by go_simp, by go_simp, by go_simp, by go_simp⟩, fun o => by go_simp⟩, by (repeat (first | exact Below.refl _ _ | (refine below_drewN ?_ _) | (refine Below.drew ?_) | (refine Below.setCell ?_ (by first | omega | (simp; try omega)) _) | (refine Below.alloc ?_ (by first | omega | (simp; try omega)) _) | (refine Below.trans ?_ (Below.mono (by assumption) (by first | omega | (simp; try omega))))))⟩ ?_
  rintro W1 ⟨hp0, hp1, hp2, hbel⟩
  have LW1hp0 := hp0.lt; have LW1hp1 := hp1.lt; have LW1hp2 := hp2.lt; have SW1 := hbel.size
  refine wp_region_drawn [(7, isV (turn rw rx ry rz)), (8, isV (turn tw tx ty tz)), (9, isV (turn rw rx ry rz)), (10, isFlt .f32 (inner4C (Ct) (Cr))), (11, isTurn (oppIf (Cr) (inner4C (Ct) (Cr))))]
    (fun wr => HasF4 wr w.heap.size tw tx ty tz ∧ HasF4 wr (w.heap.size + 1) rw rx ry rz ∧ HasF4 wr (w.heap.size + 2) 0 0 0 0 ∧ Below W1.heap.size W1 wr)
    (by kernel_rfl) (by kernel_rfl) (by kernel_rfl) (by kernel_rfl) (Nat.le_of_ble_eq_true (by kernel_rfl)) (by kernel_rfl) ?_ (fun _ _ hb h => ⟨h.1.below hb, h.2.1.below hb, h.2.2.1.below hb, h.2.2.2.trans (hb.mono h.2.2.2.size)⟩) ⟨hp0, hp1, hp2, (Below.refl _ _).drew⟩ ?_ ?_
  · intro p hp
    simp only [List.mem_cons, List.not_mem_nil, or_false] at hp
    rcases hp with rfl | rfl | rfl | rfl | rfl <;> first | exact mono_isV _ | exact mono_isVec _ | exact mono_isTurn _ | exact mono_isFlt _ _ | exact mono_isOwn3 _ | exact mono_isOwn4 _
  · intro i o hi ho f w1 hI hdep
    simp only [List.map_cons, List.map_nil, mix, List.contains_cons, List.contains_nil, Nat.reduceBEq, Bool.or_true, Bool.or_false, Bool.false_eq_true, if_true, if_false, Nat.reduceAdd, Nat.zero_add]
    have hcase : i = 0 ∨ i = 1 ∨ i = 2 ∨ i = 3 ∨ i = 4 := by simp at hi; omega
    obtain ⟨⟨⟨c0_0, c0_1, c0_2, c0_3⟩, fz0⟩, ⟨⟨c1_0, c1_1, c1_2, c1_3⟩, fz1⟩, ⟨⟨c2_0, c2_1, c2_2, c2_3⟩, fz2⟩, hb1⟩ := hI
    have hsz := hb1.size
    rcases hcase with rfl | rfl | rfl | rfl | rfl
    · obtain rfl := Option.some.inj ho
      clear hdep ho hi
      generalize f 7 = v7 at *; generalize f 8 = v8 at *; generalize f 9 = v9 at *; generalize f 10 = v10 at *; generalize f 11 = v11 at *
      refine wpOp_step rfl (fun K hK => ?_)
      go_simp
      exact hK _ _ ⟨_, rfl, (fun p hp => by cases hp; rfl), Below.refl _ _⟩
    · obtain rfl := Option.some.inj ho
      clear hdep ho hi
      generalize f 7 = v7 at *; generalize f 8 = v8 at *; generalize f 9 = v9 at *; generalize f 10 = v10 at *; generalize f 11 = v11 at *
      refine wpOp_step rfl (fun K hK => ?_)
      go_simp
      exact hK _ _ ⟨_, rfl, (fun p hp => by cases hp; rfl), Below.refl _ _⟩
    · obtain rfl := Option.some.inj ho
      clear hdep ho hi
      generalize f 7 = v7 at *; generalize f 8 = v8 at *; generalize f 9 = v9 at *; generalize f 10 = v10 at *; generalize f 11 = v11 at *
      refine wpOp_step rfl (fun K hK => ?_)
      go_simp
      exact hK _ _ ⟨_, rfl, (fun p hp => by cases hp; rfl), Below.refl _ _⟩
    · obtain rfl := Option.some.inj ho
      have e1 : f 8 = (turn tw tx ty tz) := hdep ⟨1, .data⟩ (by simp) rfl
      have e2 : f 9 = (turn rw rx ry rz) := hdep ⟨2, .data⟩ (by simp) rfl
      clear hdep ho hi
      generalize f 7 = v7 at *; generalize f 8 = v8 at *; generalize f 9 = v9 at *; generalize f 10 = v10 at *; generalize f 11 = v11 at *
      subst e1 e2
      refine wpOp_step rfl (fun K hK => ?_)
      go_simp
      refine (c_spec_l02Inner ht hr _).mono ?_
      rintro e w' ⟨⟨y0, rfl, hv⟩, hb⟩
      exact hK _ _ ⟨_, rfl, (fun p hp => by cases hp; exact ⟨_, rfl, hv⟩), hb⟩
    · obtain rfl := Option.some.inj ho
      have e0 : f 7 = (turn rw rx ry rz) := hdep ⟨0, .data⟩ (by simp) rfl
      obtain ⟨r3, e3, hv3⟩ : isFlt _ _ (f 10) w1 := hdep ⟨3, .data⟩ (by simp) rfl
      clear hdep ho hi
      generalize f 7 = v7 at *; generalize f 8 = v8 at *; generalize f 9 = v9 at *; generalize f 10 = v10 at *; generalize f 11 = v11 at *
      subst e0 e3
      refine wpOp_step rfl (fun K hK => ?_)
      go_simp
      refine (c_spec_l02Opposite hr hv3 _).mono ?_
      rintro e w' ⟨⟨y0, y1, y2, y3, rfl, hv⟩, hb⟩
      exact hK _ _ ⟨_, rfl, (fun p hp => by cases hp; exact ⟨_, _, _, _, rfl, hv⟩), hb⟩
  · intro f w1 hI hF
    simp only [List.map_cons, List.map_nil, mix, List.contains_cons, List.contains_nil, Nat.reduceBEq, Bool.or_true, Bool.or_false, Bool.false_eq_true, if_true, if_false, Nat.reduceAdd, Nat.zero_add]
    obtain ⟨hp0, hp1, hp2, hb1⟩ := hI
    have hsz := hb1.size
    replace hbel := hbel.trans (hb1.mono hbel.size)
    obtain ⟨w1_11, x1_11, y1_11, z1_11, e4, hv1_11⟩ : isTurn _ (f 11) w1 := hF 4 (by simp)
    clear hF
    generalize f 7 = v7 at *; generalize f 8 = v8 at *; generalize f 9 = v9 at *; generalize f 10 = v10 at *; generalize f 11 = v11 at *
    subst e4
    have Lw1hp0 := hp0.lt; have Lw1hp1 := hp1.lt; have Lw1hp2 := hp2.lt
    obtain ⟨⟨c0_0, c0_1, c0_2, c0_3⟩, fz0⟩ := id hp0
    obtain ⟨⟨c1_0, c1_1, c1_2, c1_3⟩, fz1⟩ := id hp1
    obtain ⟨⟨c2_0, c2_1, c2_2, c2_3⟩, fz2⟩ := id hp2
    change wpAny _ _ _ _ (0 + 1) _ _ _
    refine wpAny_all (rs := [5]) (by kernel_rfl) (by simp) ?_
    intro i hi
    obtain rfl : i = 5 := by simpa using hi
    clear hi
    refine wpOp_step rfl (fun K hK => ?_)
    go_simp
    refine hK _ _ (wpAny_done (by kernel_rfl) ?_ _)
    clear hK K
    go_upto_region 2 with fail
    refine wp_name (fun wr => HasF4 wr w.heap.size tw tx ty tz ∧ HasF4 wr (w.heap.size + 1) w1_11 x1_11 y1_11 z1_11 ∧ HasF4 wr (w.heap.size + 2) 0 0 0 0 ∧ Below w.heap.size w wr) ⟨by (repeat (first | assumption | (refine HasF3.set ?_ _ _ (by first | omega | (simp; try omega))) | (refine HasF4.set ?_ _ _ (by first | omega | (simp; try omega))) | (refine HasF3.alloc ?_ _) | (refine HasF4.alloc ?_ _) | (refine HasF3.drewN ?_ _) | (refine HasF4.drewN ?_ _))), ⟨⟨by first | simp | go_simp, by first | simp | go_simp, by first | simp | go_simp, by first | simp | go_simp⟩, fun o => by simp [*]⟩, by (repeat (first | assumption | (refine HasF3.set ?_ _ _ (by first | omega | (simp; try omega))) | (refine HasF4.set ?_ _ _ (by first | omega | (simp; try omega))) | (refine HasF3.alloc ?_ _) | (refine HasF4.alloc ?_ _) | (refine HasF3.drewN ?_ _) | (refine HasF4.drewN ?_ _))), by (repeat (first | exact Below.refl _ _ | (refine below_drewN ?_ _) | (refine Below.drew ?_) | (refine Below.setCell ?_ (by first | omega | (simp; try omega)) _) | (refine Below.alloc ?_ (by first | omega | (simp; try omega)) _) | (refine Below.trans ?_ (Below.mono (by assumption) (by first | omega | (simp; try omega))))))⟩ ?_
    clear hbel hb1 hsz hp0 hp1 hp2 c0_0 c0_1 c0_2 c0_3 c1_0 c1_1 c1_2 c1_3 c2_0 c2_1 c2_2 c2_3 fz0 fz1 fz2
    rintro W2n ⟨hp0, hp1, hp2, hbel⟩
    have LW2nhp0 := hp0.lt; have LW2nhp1 := hp1.lt; have LW2nhp2 := hp2.lt; have SW2n := hbel.size
    refine wp_region_drawn [(12, isV (.pointer (some ⟨w.heap.size, 0, none⟩))), (13, isV (.float .f32 tw)), (14, isV (.pointer (some ⟨(w.heap.size + 1), 0, none⟩))), (15, isV (.float .f32 w1_11)), (16, isV (.float .f32 s)), (17, isFlt .f32 (stepC ((Ct).w) ((oppIf (Cr) (inner4C (Ct) (Cr))).w) (Cs))), (18, isV (.pointer (some ⟨w.heap.size, 1, none⟩))), (19, isV (.float .f32 tx)), (20, isV (.pointer (some ⟨(w.heap.size + 1), 1, none⟩))), (21, isV (.float .f32 x1_11)), (22, isV (.float .f32 s)), (23, isFlt .f32 (stepC ((Ct).x) ((oppIf (Cr) (inner4C (Ct) (Cr))).x) (Cs))), (24, isV (.pointer (some ⟨w.heap.size, 2, none⟩))), (25, isV (.float .f32 ty)), (26, isV (.pointer (some ⟨(w.heap.size + 1), 2, none⟩))), (27, isV (.float .f32 y1_11)), (28, isV (.float .f32 s)), (29, isFlt .f32 (stepC ((Ct).y) ((oppIf (Cr) (inner4C (Ct) (Cr))).y) (Cs))), (30, isV (.pointer (some ⟨w.heap.size, 3, none⟩))), (31, isV (.float .f32 tz)), (32, isV (.pointer (some ⟨(w.heap.size + 1), 3, none⟩))), (33, isV (.float .f32 z1_11)), (34, isV (.float .f32 s)), (35, isFlt .f32 (stepC ((Ct).z) ((oppIf (Cr) (inner4C (Ct) (Cr))).z) (Cs))), (36, isTurn ((⟨stepC ((Ct).w) ((oppIf (Cr) (inner4C (Ct) (Cr))).w) (Cs), stepC ((Ct).x) ((oppIf (Cr) (inner4C (Ct) (Cr))).x) (Cs), stepC ((Ct).y) ((oppIf (Cr) (inner4C (Ct) (Cr))).y) (Cs), stepC ((Ct).z) ((oppIf (Cr) (inner4C (Ct) (Cr))).z) (Cs)⟩ : V4))), (37, isTurn (mendC ((⟨stepC ((Ct).w) ((oppIf (Cr) (inner4C (Ct) (Cr))).w) (Cs), stepC ((Ct).x) ((oppIf (Cr) (inner4C (Ct) (Cr))).x) (Cs), stepC ((Ct).y) ((oppIf (Cr) (inner4C (Ct) (Cr))).y) (Cs), stepC ((Ct).z) ((oppIf (Cr) (inner4C (Ct) (Cr))).z) (Cs)⟩ : V4))))]
      (fun wr => HasF4 wr w.heap.size tw tx ty tz ∧ HasF4 wr (w.heap.size + 1) w1_11 x1_11 y1_11 z1_11 ∧ HasF4 wr (w.heap.size + 2) 0 0 0 0 ∧ Below W2n.heap.size W2n wr)
      (by kernel_rfl) (by kernel_rfl) (by kernel_rfl) (by kernel_rfl) (Nat.le_of_ble_eq_true (by kernel_rfl)) (by kernel_rfl) ?_ (fun _ _ hb h => ⟨h.1.below hb, h.2.1.below hb, h.2.2.1.below hb, h.2.2.2.trans (hb.mono h.2.2.2.size)⟩) ⟨hp0, hp1, hp2, (Below.refl _ _).drew⟩ ?_ ?_
    · intro p hp
      simp only [List.mem_cons, List.not_mem_nil, or_false] at hp
      rcases hp with rfl | rfl | rfl | rfl | rfl | rfl | rfl | rfl | rfl | rfl | rfl | rfl | rfl | rfl | rfl | rfl | rfl | rfl | rfl | rfl | rfl | rfl | rfl | rfl | rfl | rfl <;> first | exact mono_isV _ | exact mono_isVec _ | exact mono_isTurn _ | exact mono_isFlt _ _ | exact mono_isOwn3 _ | exact mono_isOwn4 _
    · intro i o hi ho f w1 hI hdep
      simp only [List.map_cons, List.map_nil, mix, List.contains_cons, List.contains_nil, Nat.reduceBEq, Bool.or_true, Bool.or_false, Bool.false_eq_true, if_true, if_false, Nat.reduceAdd, Nat.zero_add]
      have hcase : i = 0 ∨ i = 1 ∨ i = 2 ∨ i = 3 ∨ i = 4 ∨ i = 5 ∨ i = 6 ∨ i = 7 ∨ i = 8 ∨ i = 9 ∨ i = 10 ∨ i = 11 ∨ i = 12 ∨ i = 13 ∨ i = 14 ∨ i = 15 ∨ i = 16 ∨ i = 17 ∨ i = 18 ∨ i = 19 ∨ i = 20 ∨ i = 21 ∨ i = 22 ∨ i = 23 ∨ i = 24 ∨ i = 25 := by simp at hi; omega
      obtain ⟨⟨⟨c0_0, c0_1, c0_2, c0_3⟩, fz0⟩, ⟨⟨c1_0, c1_1, c1_2, c1_3⟩, fz1⟩, ⟨⟨c2_0, c2_1, c2_2, c2_3⟩, fz2⟩, hb1⟩ := hI
      have hsz := hb1.size
      rcases hcase with rfl | rfl | rfl | rfl | rfl | rfl | rfl | rfl | rfl | rfl | rfl | rfl | rfl | rfl | rfl | rfl | rfl | rfl | rfl | rfl | rfl | rfl | rfl | rfl | rfl | rfl
      · obtain rfl := Option.some.inj ho
        clear hdep ho hi
        generalize f 12 = v12 at *; generalize f 13 = v13 at *; generalize f 14 = v14 at *; generalize f 15 = v15 at *; generalize f 16 = v16 at *; generalize f 17 = v17 at *; generalize f 18 = v18 at *; generalize f 19 = v19 at *; generalize f 20 = v20 at *; generalize f 21 = v21 at *; generalize f 22 = v22 at *; generalize f 23 = v23 at *; generalize f 24 = v24 at *; generalize f 25 = v25 at *; generalize f 26 = v26 at *; generalize f 27 = v27 at *; generalize f 28 = v28 at *; generalize f 29 = v29 at *; generalize f 30 = v30 at *; generalize f 31 = v31 at *; generalize f 32 = v32 at *; generalize f 33 = v33 at *; generalize f 34 = v34 at *; generalize f 35 = v35 at *; generalize f 36 = v36 at *; generalize f 37 = v37 at *
        refine wpOp_step rfl (fun K hK => ?_)
        go_simp
        exact hK _ _ ⟨_, rfl, (fun p hp => by cases hp; rfl), Below.refl _ _⟩
      · obtain rfl := Option.some.inj ho
        have e0 : f 12 = (.pointer (some ⟨w.heap.size, 0, none⟩)) := hdep ⟨0, .data⟩ (by simp) rfl
        clear hdep ho hi
        generalize f 12 = v12 at *; generalize f 13 = v13 at *; generalize f 14 = v14 at *; generalize f 15 = v15 at *; generalize f 16 = v16 at *; generalize f 17 = v17 at *; generalize f 18 = v18 at *; generalize f 19 = v19 at *; generalize f 20 = v20 at *; generalize f 21 = v21 at *; generalize f 22 = v22 at *; generalize f 23 = v23 at *; generalize f 24 = v24 at *; generalize f 25 = v25 at *; generalize f 26 = v26 at *; generalize f 27 = v27 at *; generalize f 28 = v28 at *; generalize f 29 = v29 at *; generalize f 30 = v30 at *; generalize f 31 = v31 at *; generalize f 32 = v32 at *; generalize f 33 = v33 at *; generalize f 34 = v34 at *; generalize f 35 = v35 at *; generalize f 36 = v36 at *; generalize f 37 = v37 at *
        subst e0
        refine wpOp_step rfl (fun K hK => ?_)
        go_simp
        exact hK _ _ ⟨_, rfl, (fun p hp => by cases hp; rfl), Below.refl _ _⟩
      · obtain rfl := Option.some.inj ho
        clear hdep ho hi
        generalize f 12 = v12 at *; generalize f 13 = v13 at *; generalize f 14 = v14 at *; generalize f 15 = v15 at *; generalize f 16 = v16 at *; generalize f 17 = v17 at *; generalize f 18 = v18 at *; generalize f 19 = v19 at *; generalize f 20 = v20 at *; generalize f 21 = v21 at *; generalize f 22 = v22 at *; generalize f 23 = v23 at *; generalize f 24 = v24 at *; generalize f 25 = v25 at *; generalize f 26 = v26 at *; generalize f 27 = v27 at *; generalize f 28 = v28 at *; generalize f 29 = v29 at *; generalize f 30 = v30 at *; generalize f 31 = v31 at *; generalize f 32 = v32 at *; generalize f 33 = v33 at *; generalize f 34 = v34 at *; generalize f 35 = v35 at *; generalize f 36 = v36 at *; generalize f 37 = v37 at *
        refine wpOp_step rfl (fun K hK => ?_)
        go_simp
        exact hK _ _ ⟨_, rfl, (fun p hp => by cases hp; rfl), Below.refl _ _⟩
      · obtain rfl := Option.some.inj ho
        have e2 : f 14 = (.pointer (some ⟨(w.heap.size + 1), 0, none⟩)) := hdep ⟨2, .data⟩ (by simp) rfl
        clear hdep ho hi
        generalize f 12 = v12 at *; generalize f 13 = v13 at *; generalize f 14 = v14 at *; generalize f 15 = v15 at *; generalize f 16 = v16 at *; generalize f 17 = v17 at *; generalize f 18 = v18 at *; generalize f 19 = v19 at *; generalize f 20 = v20 at *; generalize f 21 = v21 at *; generalize f 22 = v22 at *; generalize f 23 = v23 at *; generalize f 24 = v24 at *; generalize f 25 = v25 at *; generalize f 26 = v26 at *; generalize f 27 = v27 at *; generalize f 28 = v28 at *; generalize f 29 = v29 at *; generalize f 30 = v30 at *; generalize f 31 = v31 at *; generalize f 32 = v32 at *; generalize f 33 = v33 at *; generalize f 34 = v34 at *; generalize f 35 = v35 at *; generalize f 36 = v36 at *; generalize f 37 = v37 at *
        subst e2
        refine wpOp_step rfl (fun K hK => ?_)
        go_simp
        exact hK _ _ ⟨_, rfl, (fun p hp => by cases hp; rfl), Below.refl _ _⟩
      · obtain rfl := Option.some.inj ho
        clear hdep ho hi
        generalize f 12 = v12 at *; generalize f 13 = v13 at *; generalize f 14 = v14 at *; generalize f 15 = v15 at *; generalize f 16 = v16 at *; generalize f 17 = v17 at *; generalize f 18 = v18 at *; generalize f 19 = v19 at *; generalize f 20 = v20 at *; generalize f 21 = v21 at *; generalize f 22 = v22 at *; generalize f 23 = v23 at *; generalize f 24 = v24 at *; generalize f 25 = v25 at *; generalize f 26 = v26 at *; generalize f 27 = v27 at *; generalize f 28 = v28 at *; generalize f 29 = v29 at *; generalize f 30 = v30 at *; generalize f 31 = v31 at *; generalize f 32 = v32 at *; generalize f 33 = v33 at *; generalize f 34 = v34 at *; generalize f 35 = v35 at *; generalize f 36 = v36 at *; generalize f 37 = v37 at *
        refine wpOp_step rfl (fun K hK => ?_)
        go_simp
        exact hK _ _ ⟨_, rfl, (fun p hp => by cases hp; rfl), Below.refl _ _⟩
      · obtain rfl := Option.some.inj ho
        have e1 : f 13 = (.float .f32 tw) := hdep ⟨1, .data⟩ (by simp) rfl
        have e3 : f 15 = (.float .f32 w1_11) := hdep ⟨3, .data⟩ (by simp) rfl
        have e4 : f 16 = (.float .f32 s) := hdep ⟨4, .data⟩ (by simp) rfl
        clear hdep ho hi
        generalize f 12 = v12 at *; generalize f 13 = v13 at *; generalize f 14 = v14 at *; generalize f 15 = v15 at *; generalize f 16 = v16 at *; generalize f 17 = v17 at *; generalize f 18 = v18 at *; generalize f 19 = v19 at *; generalize f 20 = v20 at *; generalize f 21 = v21 at *; generalize f 22 = v22 at *; generalize f 23 = v23 at *; generalize f 24 = v24 at *; generalize f 25 = v25 at *; generalize f 26 = v26 at *; generalize f 27 = v27 at *; generalize f 28 = v28 at *; generalize f 29 = v29 at *; generalize f 30 = v30 at *; generalize f 31 = v31 at *; generalize f 32 = v32 at *; generalize f 33 = v33 at *; generalize f 34 = v34 at *; generalize f 35 = v35 at *; generalize f 36 = v36 at *; generalize f 37 = v37 at *
        subst e1 e3 e4
        refine wpOp_step rfl (fun K hK => ?_)
        go_simp
        refine (c_spec_l02Step ht.w hv1_11.w hs _).mono ?_
        rintro e w' ⟨⟨y0, rfl, hv⟩, hb⟩
        exact hK _ _ ⟨_, rfl, (fun p hp => by cases hp; exact ⟨_, rfl, hv⟩), hb⟩
      · obtain rfl := Option.some.inj ho
        clear hdep ho hi
        generalize f 12 = v12 at *; generalize f 13 = v13 at *; generalize f 14 = v14 at *; generalize f 15 = v15 at *; generalize f 16 = v16 at *; generalize f 17 = v17 at *; generalize f 18 = v18 at *; generalize f 19 = v19 at *; generalize f 20 = v20 at *; generalize f 21 = v21 at *; generalize f 22 = v22 at *; generalize f 23 = v23 at *; generalize f 24 = v24 at *; generalize f 25 = v25 at *; generalize f 26 = v26 at *; generalize f 27 = v27 at *; generalize f 28 = v28 at *; generalize f 29 = v29 at *; generalize f 30 = v30 at *; generalize f 31 = v31 at *; generalize f 32 = v32 at *; generalize f 33 = v33 at *; generalize f 34 = v34 at *; generalize f 35 = v35 at *; generalize f 36 = v36 at *; generalize f 37 = v37 at *
        refine wpOp_step rfl (fun K hK => ?_)
        go_simp
        exact hK _ _ ⟨_, rfl, (fun p hp => by cases hp; rfl), Below.refl _ _⟩
      · obtain rfl := Option.some.inj ho
        have e6 : f 18 = (.pointer (some ⟨w.heap.size, 1, none⟩)) := hdep ⟨6, .data⟩ (by simp) rfl
        clear hdep ho hi
        generalize f 12 = v12 at *; generalize f 13 = v13 at *; generalize f 14 = v14 at *; generalize f 15 = v15 at *; generalize f 16 = v16 at *; generalize f 17 = v17 at *; generalize f 18 = v18 at *; generalize f 19 = v19 at *; generalize f 20 = v20 at *; generalize f 21 = v21 at *; generalize f 22 = v22 at *; generalize f 23 = v23 at *; generalize f 24 = v24 at *; generalize f 25 = v25 at *; generalize f 26 = v26 at *; generalize f 27 = v27 at *; generalize f 28 = v28 at *; generalize f 29 = v29 at *; generalize f 30 = v30 at *; generalize f 31 = v31 at *; generalize f 32 = v32 at *; generalize f 33 = v33 at *; generalize f 34 = v34 at *; generalize f 35 = v35 at *; generalize f 36 = v36 at *; generalize f 37 = v37 at *
        subst e6
        refine wpOp_step rfl (fun K hK => ?_)
        go_simp
        exact hK _ _ ⟨_, rfl, (fun p hp => by cases hp; rfl), Below.refl _ _⟩
      · obtain rfl := Option.some.inj ho
        clear hdep ho hi
        generalize f 12 = v12 at *; generalize f 13 = v13 at *; generalize f 14 = v14 at *; generalize f 15 = v15 at *; generalize f 16 = v16 at *; generalize f 17 = v17 at *; generalize f 18 = v18 at *; generalize f 19 = v19 at *; generalize f 20 = v20 at *; generalize f 21 = v21 at *; generalize f 22 = v22 at *; generalize f 23 = v23 at *; generalize f 24 = v24 at *; generalize f 25 = v25 at *; generalize f 26 = v26 at *; generalize f 27 = v27 at *; generalize f 28 = v28 at *; generalize f 29 = v29 at *; generalize f 30 = v30 at *; generalize f 31 = v31 at *; generalize f 32 = v32 at *; generalize f 33 = v33 at *; generalize f 34 = v34 at *; generalize f 35 = v35 at *; generalize f 36 = v36 at *; generalize f 37 = v37 at *
        refine wpOp_step rfl (fun K hK => ?_)
        go_simp
        exact hK _ _ ⟨_, rfl, (fun p hp => by cases hp; rfl), Below.refl _ _⟩
      · obtain rfl := Option.some.inj ho
        have e8 : f 20 = (.pointer (some ⟨(w.heap.size + 1), 1, none⟩)) := hdep ⟨8, .data⟩ (by simp) rfl
        clear hdep ho hi
        generalize f 12 = v12 at *; generalize f 13 = v13 at *; generalize f 14 = v14 at *; generalize f 15 = v15 at *; generalize f 16 = v16 at *; generalize f 17 = v17 at *; generalize f 18 = v18 at *; generalize f 19 = v19 at *; generalize f 20 = v20 at *; generalize f 21 = v21 at *; generalize f 22 = v22 at *; generalize f 23 = v23 at *; generalize f 24 = v24 at *; generalize f 25 = v25 at *; generalize f 26 = v26 at *; generalize f 27 = v27 at *; generalize f 28 = v28 at *; generalize f 29 = v29 at *; generalize f 30 = v30 at *; generalize f 31 = v31 at *; generalize f 32 = v32 at *; generalize f 33 = v33 at *; generalize f 34 = v34 at *; generalize f 35 = v35 at *; generalize f 36 = v36 at *; generalize f 37 = v37 at *
        subst e8
        refine wpOp_step rfl (fun K hK => ?_)
        go_simp
        exact hK _ _ ⟨_, rfl, (fun p hp => by cases hp; rfl), Below.refl _ _⟩
      · obtain rfl := Option.some.inj ho
        clear hdep ho hi
        generalize f 12 = v12 at *; generalize f 13 = v13 at *; generalize f 14 = v14 at *; generalize f 15 = v15 at *; generalize f 16 = v16 at *; generalize f 17 = v17 at *; generalize f 18 = v18 at *; generalize f 19 = v19 at *; generalize f 20 = v20 at *; generalize f 21 = v21 at *; generalize f 22 = v22 at *; generalize f 23 = v23 at *; generalize f 24 = v24 at *; generalize f 25 = v25 at *; generalize f 26 = v26 at *; generalize f 27 = v27 at *; generalize f 28 = v28 at *; generalize f 29 = v29 at *; generalize f 30 = v30 at *; generalize f 31 = v31 at *; generalize f 32 = v32 at *; generalize f 33 = v33 at *; generalize f 34 = v34 at *; generalize f 35 = v35 at *; generalize f 36 = v36 at *; generalize f 37 = v37 at *
        refine wpOp_step rfl (fun K hK => ?_)
        go_simp
        exact hK _ _ ⟨_, rfl, (fun p hp => by cases hp; rfl), Below.refl _ _⟩
      · obtain rfl := Option.some.inj ho
        have e7 : f 19 = (.float .f32 tx) := hdep ⟨7, .data⟩ (by simp) rfl
        have e9 : f 21 = (.float .f32 x1_11) := hdep ⟨9, .data⟩ (by simp) rfl
        have e10 : f 22 = (.float .f32 s) := hdep ⟨10, .data⟩ (by simp) rfl
        clear hdep ho hi
        generalize f 12 = v12 at *; generalize f 13 = v13 at *; generalize f 14 = v14 at *; generalize f 15 = v15 at *; generalize f 16 = v16 at *; generalize f 17 = v17 at *; generalize f 18 = v18 at *; generalize f 19 = v19 at *; generalize f 20 = v20 at *; generalize f 21 = v21 at *; generalize f 22 = v22 at *; generalize f 23 = v23 at *; generalize f 24 = v24 at *; generalize f 25 = v25 at *; generalize f 26 = v26 at *; generalize f 27 = v27 at *; generalize f 28 = v28 at *; generalize f 29 = v29 at *; generalize f 30 = v30 at *; generalize f 31 = v31 at *; generalize f 32 = v32 at *; generalize f 33 = v33 at *; generalize f 34 = v34 at *; generalize f 35 = v35 at *; generalize f 36 = v36 at *; generalize f 37 = v37 at *
        subst e7 e9 e10
        refine wpOp_step rfl (fun K hK => ?_)
        go_simp
        refine (c_spec_l02Step ht.x hv1_11.x hs _).mono ?_
        rintro e w' ⟨⟨y0, rfl, hv⟩, hb⟩
        exact hK _ _ ⟨_, rfl, (fun p hp => by cases hp; exact ⟨_, rfl, hv⟩), hb⟩
      · obtain rfl := Option.some.inj ho
        clear hdep ho hi
        generalize f 12 = v12 at *; generalize f 13 = v13 at *; generalize f 14 = v14 at *; generalize f 15 = v15 at *; generalize f 16 = v16 at *; generalize f 17 = v17 at *; generalize f 18 = v18 at *; generalize f 19 = v19 at *; generalize f 20 = v20 at *; generalize f 21 = v21 at *; generalize f 22 = v22 at *; generalize f 23 = v23 at *; generalize f 24 = v24 at *; generalize f 25 = v25 at *; generalize f 26 = v26 at *; generalize f 27 = v27 at *; generalize f 28 = v28 at *; generalize f 29 = v29 at *; generalize f 30 = v30 at *; generalize f 31 = v31 at *; generalize f 32 = v32 at *; generalize f 33 = v33 at *; generalize f 34 = v34 at *; generalize f 35 = v35 at *; generalize f 36 = v36 at *; generalize f 37 = v37 at *
        refine wpOp_step rfl (fun K hK => ?_)
        go_simp
        exact hK _ _ ⟨_, rfl, (fun p hp => by cases hp; rfl), Below.refl _ _⟩
      · obtain rfl := Option.some.inj ho
        have e12 : f 24 = (.pointer (some ⟨w.heap.size, 2, none⟩)) := hdep ⟨12, .data⟩ (by simp) rfl
        clear hdep ho hi
        generalize f 12 = v12 at *; generalize f 13 = v13 at *; generalize f 14 = v14 at *; generalize f 15 = v15 at *; generalize f 16 = v16 at *; generalize f 17 = v17 at *; generalize f 18 = v18 at *; generalize f 19 = v19 at *; generalize f 20 = v20 at *; generalize f 21 = v21 at *; generalize f 22 = v22 at *; generalize f 23 = v23 at *; generalize f 24 = v24 at *; generalize f 25 = v25 at *; generalize f 26 = v26 at *; generalize f 27 = v27 at *; generalize f 28 = v28 at *; generalize f 29 = v29 at *; generalize f 30 = v30 at *; generalize f 31 = v31 at *; generalize f 32 = v32 at *; generalize f 33 = v33 at *; generalize f 34 = v34 at *; generalize f 35 = v35 at *; generalize f 36 = v36 at *; generalize f 37 = v37 at *
        subst e12
        refine wpOp_step rfl (fun K hK => ?_)
        go_simp
        exact hK _ _ ⟨_, rfl, (fun p hp => by cases hp; rfl), Below.refl _ _⟩
      · obtain rfl := Option.some.inj ho
        clear hdep ho hi
        generalize f 12 = v12 at *; generalize f 13 = v13 at *; generalize f 14 = v14 at *; generalize f 15 = v15 at *; generalize f 16 = v16 at *; generalize f 17 = v17 at *; generalize f 18 = v18 at *; generalize f 19 = v19 at *; generalize f 20 = v20 at *; generalize f 21 = v21 at *; generalize f 22 = v22 at *; generalize f 23 = v23 at *; generalize f 24 = v24 at *; generalize f 25 = v25 at *; generalize f 26 = v26 at *; generalize f 27 = v27 at *; generalize f 28 = v28 at *; generalize f 29 = v29 at *; generalize f 30 = v30 at *; generalize f 31 = v31 at *; generalize f 32 = v32 at *; generalize f 33 = v33 at *; generalize f 34 = v34 at *; generalize f 35 = v35 at *; generalize f 36 = v36 at *; generalize f 37 = v37 at *
        refine wpOp_step rfl (fun K hK => ?_)
        go_simp
        exact hK _ _ ⟨_, rfl, (fun p hp => by cases hp; rfl), Below.refl _ _⟩
      · obtain rfl := Option.some.inj ho
        have e14 : f 26 = (.pointer (some ⟨(w.heap.size + 1), 2, none⟩)) := hdep ⟨14, .data⟩ (by simp) rfl
        clear hdep ho hi
        generalize f 12 = v12 at *; generalize f 13 = v13 at *; generalize f 14 = v14 at *; generalize f 15 = v15 at *; generalize f 16 = v16 at *; generalize f 17 = v17 at *; generalize f 18 = v18 at *; generalize f 19 = v19 at *; generalize f 20 = v20 at *; generalize f 21 = v21 at *; generalize f 22 = v22 at *; generalize f 23 = v23 at *; generalize f 24 = v24 at *; generalize f 25 = v25 at *; generalize f 26 = v26 at *; generalize f 27 = v27 at *; generalize f 28 = v28 at *; generalize f 29 = v29 at *; generalize f 30 = v30 at *; generalize f 31 = v31 at *; generalize f 32 = v32 at *; generalize f 33 = v33 at *; generalize f 34 = v34 at *; generalize f 35 = v35 at *; generalize f 36 = v36 at *; generalize f 37 = v37 at *
        subst e14
        refine wpOp_step rfl (fun K hK => ?_)
        go_simp
        exact hK _ _ ⟨_, rfl, (fun p hp => by cases hp; rfl), Below.refl _ _⟩
      · obtain rfl := Option.some.inj ho
        clear hdep ho hi
        generalize f 12 = v12 at *; generalize f 13 = v13 at *; generalize f 14 = v14 at *; generalize f 15 = v15 at *; generalize f 16 = v16 at *; generalize f 17 = v17 at *; generalize f 18 = v18 at *; generalize f 19 = v19 at *; generalize f 20 = v20 at *; generalize f 21 = v21 at *; generalize f 22 = v22 at *; generalize f 23 = v23 at *; generalize f 24 = v24 at *; generalize f 25 = v25 at *; generalize f 26 = v26 at *; generalize f 27 = v27 at *; generalize f 28 = v28 at *; generalize f 29 = v29 at *; generalize f 30 = v30 at *; generalize f 31 = v31 at *; generalize f 32 = v32 at *; generalize f 33 = v33 at *; generalize f 34 = v34 at *; generalize f 35 = v35 at *; generalize f 36 = v36 at *; generalize f 37 = v37 at *
        refine wpOp_step rfl (fun K hK => ?_)
        go_simp
        exact hK _ _ ⟨_, rfl, (fun p hp => by cases hp; rfl), Below.refl _ _⟩
      · obtain rfl := Option.some.inj ho
        have e13 : f 25 = (.float .f32 ty) := hdep ⟨13, .data⟩ (by simp) rfl
        have e15 : f 27 = (.float .f32 y1_11) := hdep ⟨15, .data⟩ (by simp) rfl
        have e16 : f 28 = (.float .f32 s) := hdep ⟨16, .data⟩ (by simp) rfl
        clear hdep ho hi
        generalize f 12 = v12 at *; generalize f 13 = v13 at *; generalize f 14 = v14 at *; generalize f 15 = v15 at *; generalize f 16 = v16 at *; generalize f 17 = v17 at *; generalize f 18 = v18 at *; generalize f 19 = v19 at *; generalize f 20 = v20 at *; generalize f 21 = v21 at *; generalize f 22 = v22 at *; generalize f 23 = v23 at *; generalize f 24 = v24 at *; generalize f 25 = v25 at *; generalize f 26 = v26 at *; generalize f 27 = v27 at *; generalize f 28 = v28 at *; generalize f 29 = v29 at *; generalize f 30 = v30 at *; generalize f 31 = v31 at *; generalize f 32 = v32 at *; generalize f 33 = v33 at *; generalize f 34 = v34 at *; generalize f 35 = v35 at *; generalize f 36 = v36 at *; generalize f 37 = v37 at *
        subst e13 e15 e16
        refine wpOp_step rfl (fun K hK => ?_)
        go_simp
        refine (c_spec_l02Step ht.y hv1_11.y hs _).mono ?_
        rintro e w' ⟨⟨y0, rfl, hv⟩, hb⟩
        exact hK _ _ ⟨_, rfl, (fun p hp => by cases hp; exact ⟨_, rfl, hv⟩), hb⟩
      · obtain rfl := Option.some.inj ho
        clear hdep ho hi
        generalize f 12 = v12 at *; generalize f 13 = v13 at *; generalize f 14 = v14 at *; generalize f 15 = v15 at *; generalize f 16 = v16 at *; generalize f 17 = v17 at *; generalize f 18 = v18 at *; generalize f 19 = v19 at *; generalize f 20 = v20 at *; generalize f 21 = v21 at *; generalize f 22 = v22 at *; generalize f 23 = v23 at *; generalize f 24 = v24 at *; generalize f 25 = v25 at *; generalize f 26 = v26 at *; generalize f 27 = v27 at *; generalize f 28 = v28 at *; generalize f 29 = v29 at *; generalize f 30 = v30 at *; generalize f 31 = v31 at *; generalize f 32 = v32 at *; generalize f 33 = v33 at *; generalize f 34 = v34 at *; generalize f 35 = v35 at *; generalize f 36 = v36 at *; generalize f 37 = v37 at *
        refine wpOp_step rfl (fun K hK => ?_)
        go_simp
        exact hK _ _ ⟨_, rfl, (fun p hp => by cases hp; rfl), Below.refl _ _⟩
      · obtain rfl := Option.some.inj ho
        have e18 : f 30 = (.pointer (some ⟨w.heap.size, 3, none⟩)) := hdep ⟨18, .data⟩ (by simp) rfl
        clear hdep ho hi
        generalize f 12 = v12 at *; generalize f 13 = v13 at *; generalize f 14 = v14 at *; generalize f 15 = v15 at *; generalize f 16 = v16 at *; generalize f 17 = v17 at *; generalize f 18 = v18 at *; generalize f 19 = v19 at *; generalize f 20 = v20 at *; generalize f 21 = v21 at *; generalize f 22 = v22 at *; generalize f 23 = v23 at *; generalize f 24 = v24 at *; generalize f 25 = v25 at *; generalize f 26 = v26 at *; generalize f 27 = v27 at *; generalize f 28 = v28 at *; generalize f 29 = v29 at *; generalize f 30 = v30 at *; generalize f 31 = v31 at *; generalize f 32 = v32 at *; generalize f 33 = v33 at *; generalize f 34 = v34 at *; generalize f 35 = v35 at *; generalize f 36 = v36 at *; generalize f 37 = v37 at *
        subst e18
        refine wpOp_step rfl (fun K hK => ?_)
        go_simp
        exact hK _ _ ⟨_, rfl, (fun p hp => by cases hp; rfl), Below.refl _ _⟩
      · obtain rfl := Option.some.inj ho
        clear hdep ho hi
        generalize f 12 = v12 at *; generalize f 13 = v13 at *; generalize f 14 = v14 at *; generalize f 15 = v15 at *; generalize f 16 = v16 at *; generalize f 17 = v17 at *; generalize f 18 = v18 at *; generalize f 19 = v19 at *; generalize f 20 = v20 at *; generalize f 21 = v21 at *; generalize f 22 = v22 at *; generalize f 23 = v23 at *; generalize f 24 = v24 at *; generalize f 25 = v25 at *; generalize f 26 = v26 at *; generalize f 27 = v27 at *; generalize f 28 = v28 at *; generalize f 29 = v29 at *; generalize f 30 = v30 at *; generalize f 31 = v31 at *; generalize f 32 = v32 at *; generalize f 33 = v33 at *; generalize f 34 = v34 at *; generalize f 35 = v35 at *; generalize f 36 = v36 at *; generalize f 37 = v37 at *
        refine wpOp_step rfl (fun K hK => ?_)
        go_simp
        exact hK _ _ ⟨_, rfl, (fun p hp => by cases hp; rfl), Below.refl _ _⟩
      · obtain rfl := Option.some.inj ho
        have e20 : f 32 = (.pointer (some ⟨(w.heap.size + 1), 3, none⟩)) := hdep ⟨20, .data⟩ (by simp) rfl
        clear hdep ho hi
        generalize f 12 = v12 at *; generalize f 13 = v13 at *; generalize f 14 = v14 at *; generalize f 15 = v15 at *; generalize f 16 = v16 at *; generalize f 17 = v17 at *; generalize f 18 = v18 at *; generalize f 19 = v19 at *; generalize f 20 = v20 at *; generalize f 21 = v21 at *; generalize f 22 = v22 at *; generalize f 23 = v23 at *; generalize f 24 = v24 at *; generalize f 25 = v25 at *; generalize f 26 = v26 at *; generalize f 27 = v27 at *; generalize f 28 = v28 at *; generalize f 29 = v29 at *; generalize f 30 = v30 at *; generalize f 31 = v31 at *; generalize f 32 = v32 at *; generalize f 33 = v33 at *; generalize f 34 = v34 at *; generalize f 35 = v35 at *; generalize f 36 = v36 at *; generalize f 37 = v37 at *
        subst e20
        refine wpOp_step rfl (fun K hK => ?_)
        go_simp
        exact hK _ _ ⟨_, rfl, (fun p hp => by cases hp; rfl), Below.refl _ _⟩
      · obtain rfl := Option.some.inj ho
        clear hdep ho hi
        generalize f 12 = v12 at *; generalize f 13 = v13 at *; generalize f 14 = v14 at *; generalize f 15 = v15 at *; generalize f 16 = v16 at *; generalize f 17 = v17 at *; generalize f 18 = v18 at *; generalize f 19 = v19 at *; generalize f 20 = v20 at *; generalize f 21 = v21 at *; generalize f 22 = v22 at *; generalize f 23 = v23 at *; generalize f 24 = v24 at *; generalize f 25 = v25 at *; generalize f 26 = v26 at *; generalize f 27 = v27 at *; generalize f 28 = v28 at *; generalize f 29 = v29 at *; generalize f 30 = v30 at *; generalize f 31 = v31 at *; generalize f 32 = v32 at *; generalize f 33 = v33 at *; generalize f 34 = v34 at *; generalize f 35 = v35 at *; generalize f 36 = v36 at *; generalize f 37 = v37 at *
        refine wpOp_step rfl (fun K hK => ?_)
        go_simp
        exact hK _ _ ⟨_, rfl, (fun p hp => by cases hp; rfl), Below.refl _ _⟩
      · obtain rfl := Option.some.inj ho
        have e19 : f 31 = (.float .f32 tz) := hdep ⟨19, .data⟩ (by simp) rfl
        have e21 : f 33 = (.float .f32 z1_11) := hdep ⟨21, .data⟩ (by simp) rfl
        have e22 : f 34 = (.float .f32 s) := hdep ⟨22, .data⟩ (by simp) rfl
        clear hdep ho hi
        generalize f 12 = v12 at *; generalize f 13 = v13 at *; generalize f 14 = v14 at *; generalize f 15 = v15 at *; generalize f 16 = v16 at *; generalize f 17 = v17 at *; generalize f 18 = v18 at *; generalize f 19 = v19 at *; generalize f 20 = v20 at *; generalize f 21 = v21 at *; generalize f 22 = v22 at *; generalize f 23 = v23 at *; generalize f 24 = v24 at *; generalize f 25 = v25 at *; generalize f 26 = v26 at *; generalize f 27 = v27 at *; generalize f 28 = v28 at *; generalize f 29 = v29 at *; generalize f 30 = v30 at *; generalize f 31 = v31 at *; generalize f 32 = v32 at *; generalize f 33 = v33 at *; generalize f 34 = v34 at *; generalize f 35 = v35 at *; generalize f 36 = v36 at *; generalize f 37 = v37 at *
        subst e19 e21 e22
        refine wpOp_step rfl (fun K hK => ?_)
        go_simp
        refine (c_spec_l02Step ht.z hv1_11.z hs _).mono ?_
        rintro e w' ⟨⟨y0, rfl, hv⟩, hb⟩
        exact hK _ _ ⟨_, rfl, (fun p hp => by cases hp; exact ⟨_, rfl, hv⟩), hb⟩
      · obtain rfl := Option.some.inj ho
        obtain ⟨r5, e5, hv5⟩ : isFlt _ _ (f 17) w1 := hdep ⟨5, .data⟩ (by simp) rfl
        obtain ⟨r11, e11, hv11⟩ : isFlt _ _ (f 23) w1 := hdep ⟨11, .data⟩ (by simp) rfl
        obtain ⟨r17, e17, hv17⟩ : isFlt _ _ (f 29) w1 := hdep ⟨17, .data⟩ (by simp) rfl
        obtain ⟨r23, e23, hv23⟩ : isFlt _ _ (f 35) w1 := hdep ⟨23, .data⟩ (by simp) rfl
        clear hdep ho hi
        generalize f 12 = v12 at *; generalize f 13 = v13 at *; generalize f 14 = v14 at *; generalize f 15 = v15 at *; generalize f 16 = v16 at *; generalize f 17 = v17 at *; generalize f 18 = v18 at *; generalize f 19 = v19 at *; generalize f 20 = v20 at *; generalize f 21 = v21 at *; generalize f 22 = v22 at *; generalize f 23 = v23 at *; generalize f 24 = v24 at *; generalize f 25 = v25 at *; generalize f 26 = v26 at *; generalize f 27 = v27 at *; generalize f 28 = v28 at *; generalize f 29 = v29 at *; generalize f 30 = v30 at *; generalize f 31 = v31 at *; generalize f 32 = v32 at *; generalize f 33 = v33 at *; generalize f 34 = v34 at *; generalize f 35 = v35 at *; generalize f 36 = v36 at *; generalize f 37 = v37 at *
        subst e5 e11 e17 e23
        refine wpOp_step rfl (fun K hK => ?_)
        go_simp
        exact hK _ _ ⟨_, rfl, (fun p hp => by cases hp; exact ⟨_, _, _, _, rfl, (⟨hv5, hv11, hv17, hv23⟩ : Fv4 r5 r11 r17 r23 ⟨stepC ((Ct).w) ((oppIf (Cr) (inner4C (Ct) (Cr))).w) (Cs), stepC ((Ct).x) ((oppIf (Cr) (inner4C (Ct) (Cr))).x) (Cs), stepC ((Ct).y) ((oppIf (Cr) (inner4C (Ct) (Cr))).y) (Cs), stepC ((Ct).z) ((oppIf (Cr) (inner4C (Ct) (Cr))).z) (Cs)⟩)⟩), Below.refl _ _⟩
      · obtain rfl := Option.some.inj ho
        obtain ⟨w24, x24, y24, z24, e24, hv24⟩ : isTurn _ (f 36) w1 := hdep ⟨24, .data⟩ (by simp) rfl
        clear hdep ho hi
        generalize f 12 = v12 at *; generalize f 13 = v13 at *; generalize f 14 = v14 at *; generalize f 15 = v15 at *; generalize f 16 = v16 at *; generalize f 17 = v17 at *; generalize f 18 = v18 at *; generalize f 19 = v19 at *; generalize f 20 = v20 at *; generalize f 21 = v21 at *; generalize f 22 = v22 at *; generalize f 23 = v23 at *; generalize f 24 = v24 at *; generalize f 25 = v25 at *; generalize f 26 = v26 at *; generalize f 27 = v27 at *; generalize f 28 = v28 at *; generalize f 29 = v29 at *; generalize f 30 = v30 at *; generalize f 31 = v31 at *; generalize f 32 = v32 at *; generalize f 33 = v33 at *; generalize f 34 = v34 at *; generalize f 35 = v35 at *; generalize f 36 = v36 at *; generalize f 37 = v37 at *
        subst e24
        refine wpOp_step rfl (fun K hK => ?_)
        go_simp
        refine (c_spec_l02Mend hv24 _).mono ?_
        rintro e w' ⟨⟨y0, y1, y2, y3, rfl, hv⟩, hb⟩
        exact hK _ _ ⟨_, rfl, (fun p hp => by cases hp; exact ⟨_, _, _, _, rfl, hv⟩), hb⟩
    · intro f w1 hI hF
      simp only [List.map_cons, List.map_nil, mix, List.contains_cons, List.contains_nil, Nat.reduceBEq, Bool.or_true, Bool.or_false, Bool.false_eq_true, if_true, if_false, Nat.reduceAdd, Nat.zero_add]
      obtain ⟨hp0, hp1, hp2, hb1⟩ := hI
      have hsz := hb1.size
      replace hbel := hbel.trans (hb1.mono hbel.size)
      obtain ⟨w3_37, x3_37, y3_37, z3_37, e25, hv3_37⟩ : isTurn _ (f 37) w1 := hF 25 (by simp)
      clear hF
      generalize f 12 = v12 at *; generalize f 13 = v13 at *; generalize f 14 = v14 at *; generalize f 15 = v15 at *; generalize f 16 = v16 at *; generalize f 17 = v17 at *; generalize f 18 = v18 at *; generalize f 19 = v19 at *; generalize f 20 = v20 at *; generalize f 21 = v21 at *; generalize f 22 = v22 at *; generalize f 23 = v23 at *; generalize f 24 = v24 at *; generalize f 25 = v25 at *; generalize f 26 = v26 at *; generalize f 27 = v27 at *; generalize f 28 = v28 at *; generalize f 29 = v29 at *; generalize f 30 = v30 at *; generalize f 31 = v31 at *; generalize f 32 = v32 at *; generalize f 33 = v33 at *; generalize f 34 = v34 at *; generalize f 35 = v35 at *; generalize f 36 = v36 at *; generalize f 37 = v37 at *
      subst e25
      have Lw3hp0 := hp0.lt; have Lw3hp1 := hp1.lt; have Lw3hp2 := hp2.lt
      obtain ⟨⟨c0_0, c0_1, c0_2, c0_3⟩, fz0⟩ := id hp0
      obtain ⟨⟨c1_0, c1_1, c1_2, c1_3⟩, fz1⟩ := id hp1
      obtain ⟨⟨c2_0, c2_1, c2_2, c2_3⟩, fz2⟩ := id hp2
      change wpAny _ _ _ _ (0 + 1) _ _ _
      refine wpAny_all (rs := [26]) (by kernel_rfl) (by simp) ?_
      intro i hi
      obtain rfl : i = 26 := by simpa using hi
      clear hi
      refine wpOp_step rfl (fun K hK => ?_)
      go_simp
      refine hK _ _ (wpAny_done (by kernel_rfl) ?_ _)
      clear hK K
      go_wp2_with fail
      apply ret_turn; exact hv3_37.w; exact hv3_37.x; exact hv3_37.y; exact hv3_37.z; simp [results, Try.results28, go_sem, *]; rfl; (repeat (first | exact Below.refl _ _ | (refine below_drewN ?_ _) | (refine Below.drew ?_) | (refine Below.setCell ?_ (by first | omega | (simp; try omega)) _) | (refine Below.alloc ?_ (by first | omega | (simp; try omega)) _) | (refine Below.trans ?_ (Below.mono (by assumption) (by first | omega | (simp; try omega))))))

end Go.Proofs.Ytpfijbgkhekjfaa
