/-
  A turn on a curve. No condition.
-/
import Derived.Test.YtpfijbgkhekjfaaVn
import Derived.Test.YtpfijbgkhekjfaaVu
set_option linter.unusedVariables false
namespace Go.Proofs.Ytpfijbgkhekjfaa
open Go.RowKit Go.Proofs.Ytpfijbgkhekjfaa.Fl

def curveC (a b c d : V4) (s : Option Nat) : V4 := nearC (nearC (nearC a b s) (nearC b c s) s) (nearC (nearC b c s) (nearC c d s) s) s

set_option maxHeartbeats 40000000 in
set_option maxRecDepth 20000 in
theorem c_impl_CurveTurn {aw ax ay az cw cx cy cz dw dx dy dz ew ex ey ez s : Nat} {Ca : V4} {Cc : V4} {Cd : V4} {Ce : V4} {Cs : Option Nat} (ha : Fv4 aw ax ay az Ca) (hc : Fv4 cw cx cy cz Cc) (hd : Fv4 dw dx dy dz Cd) (he : Fv4 ew ex ey ez Ce) (hs : Fv .f32 s Cs) (w : World) : Calls Try.prog 11 #[turn aw ax ay az, turn cw cx cy cz, turn dw dx dy dz, turn ew ex ey ez, .float .f32 s] w (RetT (curveC Ca Cc Cd Ce Cs) w) := by
  go_enter Try.func11, Try.ntmps11
  go_upto_region 1 with fail
  refine wp_name (fun wr => HasF4 wr w.heap.size aw ax ay az ∧ HasF4 wr (w.heap.size + 1) cw cx cy cz ∧ HasF4 wr (w.heap.size + 2) dw dx dy dz ∧ HasF4 wr (w.heap.size + 3) ew ex ey ez ∧ HasF4 wr (w.heap.size + 4) 0 0 0 0 ∧ Below w.heap.size w wr) ⟨⟨⟨by go_simp, by go_simp, by go_simp, by go_simp⟩, fun o => by go_simp⟩, ⟨⟨by go_simp, by go_simp, by go_simp, by go_simp⟩, fun o => by go_simp⟩, ⟨⟨by go_simp, by go_simp, by go_simp, by go_simp⟩, fun o => by go_simp⟩, ⟨⟨by go_simp, by go_simp, by go_simp, by go_simp⟩, fun o => by go_simp⟩, ⟨⟨by go_simp, by go_simp, by go_simp, by go_simp⟩, fun o => by go_simp⟩, by (repeat (first | exact Below.refl _ _ | (refine below_drewN ?_ _) | (refine Below.drew ?_) | (refine Below.setCell ?_ (by first | omega | (simp; try omega)) _) | (refine Below.alloc ?_ (by first | omega | (simp; try omega)) _) | (refine Below.trans ?_ (Below.mono (by assumption) (by first | omega | (simp; try omega))))))⟩ ?_
  rintro W1 ⟨hp0, hp1, hp2, hp3, hp4, hbel⟩
  have LW1hp0 := hp0.lt; have LW1hp1 := hp1.lt; have LW1hp2 := hp2.lt; have LW1hp3 := hp3.lt; have LW1hp4 := hp4.lt; have SW1 := hbel.size
  refine wp_region_put (fun g => W1.heap.size ≤ g) [11, 12, 13]
    [FD.val 14 (isV (turn aw ax ay az)), FD.val 15 (isV (turn cw cx cy cz)), FD.val 16 (isV (.float .f32 s)), FD.val 17 (isTurn (nearC (Ca) (Cc) (Cs))), FD.val 18 (isV (turn cw cx cy cz)), FD.val 19 (isV (turn dw dx dy dz)), FD.val 20 (isV (.float .f32 s)), FD.val 21 (isTurn (nearC (Cc) (Cd) (Cs))), FD.val 22 (isV (turn dw dx dy dz)), FD.val 23 (isV (turn ew ex ey ez)), FD.val 24 (isV (.float .f32 s)), FD.val 25 (isTurn (nearC (Cd) (Ce) (Cs))), FD.val 11 (isOwn4 W1.heap.size), FD.val 12 (isOwn4 W1.heap.size), FD.val 13 (isOwn4 W1.heap.size), FD.put 11 (isPut4 (nearC (Ca) (Cc) (Cs))), FD.put 12 (isPut4 (nearC (Cc) (Cd) (Cs))), FD.put 13 (isPut4 (nearC (Cd) (Ce) (Cs)))] [14, 15, 16, 17, 18, 19, 20, 21, 22, 23, 24, 25, 11, 12, 13] rfl
    (fun wr => HasF4 wr w.heap.size aw ax ay az ∧ HasF4 wr (w.heap.size + 1) cw cx cy cz ∧ HasF4 wr (w.heap.size + 2) dw dx dy dz ∧ HasF4 wr (w.heap.size + 3) ew ex ey ez ∧ HasF4 wr (w.heap.size + 4) 0 0 0 0 ∧ Below w.heap.size w wr ∧ W1.heap.size ≤ wr.heap.size)
    (by kernel_rfl) (by kernel_rfl) (by kernel_rfl) ?_ ?_ ?_ ?_ ?_ ?_ ?_
  · intro p hp
    simp only [List.mem_cons, List.not_mem_nil, or_false] at hp
    rcases hp with rfl | rfl | rfl | rfl | rfl | rfl | rfl | rfl | rfl | rfl | rfl | rfl | rfl | rfl | rfl | rfl | rfl | rfl <;> first | exact good_isV _ _ _ | exact good_isVec _ _ _ | exact good_isTurn _ _ _ | exact good_isFlt _ _ _ _ | exact good_isOwn3 _ _ _ | exact good_isOwn4 _ _ _ | exact good_isTup2 _ _ _ _ | exact good_put3 _ _ _ | exact good_put4 _ _ _
  · rintro wa wb hb ⟨i0, i1, i2, i3, i4, i5, i6⟩
    exact ⟨i0.below hb, i1.below hb, i2.below hb, i3.below hb, i4.below hb, i5.trans (hb.mono i5.size), Nat.le_trans i6 hb.size⟩
  · rintro g wa wb hg hi ⟨i0, i1, i2, i3, i4, i5, i6⟩
    change W1.heap.size ≤ g at hg
    exact ⟨i0.into hi (by omega), i1.into hi (by omega), i2.into hi (by omega), i3.into hi (by omega), i4.into hi (by omega), below_into i5 hi (by omega), (by rw [hi.size]; exact i6)⟩
  · exact ⟨hp0.below ((Below.refl _ _).drew), hp1.below ((Below.refl _ _).drew), hp2.below ((Below.refl _ _).drew), hp3.below ((Below.refl _ _).drew), hp4.below ((Below.refl _ _).drew), hbel.drew, Nat.le_refl _⟩
  · exact sepB_start (by kernel_rfl)
  · intro i o hi ho f w1 hbase hI hS hdep
    simp only [mix, List.contains_cons, List.contains_nil, Nat.reduceBEq, Bool.or_true, Bool.or_false, Bool.false_eq_true, if_true, if_false, Nat.reduceAdd, Nat.zero_add]
    have hcase : i = 0 ∨ i = 1 ∨ i = 2 ∨ i = 3 ∨ i = 4 ∨ i = 5 ∨ i = 6 ∨ i = 7 ∨ i = 8 ∨ i = 9 ∨ i = 10 ∨ i = 11 ∨ i = 12 ∨ i = 13 ∨ i = 14 ∨ i = 15 ∨ i = 16 ∨ i = 17 := by simp at hi; omega
    obtain ⟨⟨⟨c0_0, c0_1, c0_2, c0_3⟩, fz0⟩, ⟨⟨c1_0, c1_1, c1_2, c1_3⟩, fz1⟩, ⟨⟨c2_0, c2_1, c2_2, c2_3⟩, fz2⟩, ⟨⟨c3_0, c3_1, c3_2, c3_3⟩, fz3⟩, ⟨⟨c4_0, c4_1, c4_2, c4_3⟩, fz4⟩, hbw, hsz⟩ := hI
    clear hbase hS
    rcases hcase with rfl | rfl | rfl | rfl | rfl | rfl | rfl | rfl | rfl | rfl | rfl | rfl | rfl | rfl | rfl | rfl | rfl | rfl
    · obtain rfl := Option.some.inj ho
      clear hdep ho hi
      generalize f 11 = v11 at *; generalize f 12 = v12 at *; generalize f 13 = v13 at *; generalize f 14 = v14 at *; generalize f 15 = v15 at *; generalize f 16 = v16 at *; generalize f 17 = v17 at *; generalize f 18 = v18 at *; generalize f 19 = v19 at *; generalize f 20 = v20 at *; generalize f 21 = v21 at *; generalize f 22 = v22 at *; generalize f 23 = v23 at *; generalize f 24 = v24 at *; generalize f 25 = v25 at *
      refine wpOp_step rfl (fun K hK => ?_)
      go_simp
      exact hK _ _ ⟨_, rfl, rfl, Below.refl _ _, (fun hc => absurd hc (by decide))⟩
    · obtain rfl := Option.some.inj ho
      clear hdep ho hi
      generalize f 11 = v11 at *; generalize f 12 = v12 at *; generalize f 13 = v13 at *; generalize f 14 = v14 at *; generalize f 15 = v15 at *; generalize f 16 = v16 at *; generalize f 17 = v17 at *; generalize f 18 = v18 at *; generalize f 19 = v19 at *; generalize f 20 = v20 at *; generalize f 21 = v21 at *; generalize f 22 = v22 at *; generalize f 23 = v23 at *; generalize f 24 = v24 at *; generalize f 25 = v25 at *
      refine wpOp_step rfl (fun K hK => ?_)
      go_simp
      exact hK _ _ ⟨_, rfl, rfl, Below.refl _ _, (fun hc => absurd hc (by decide))⟩
    · obtain rfl := Option.some.inj ho
      clear hdep ho hi
      generalize f 11 = v11 at *; generalize f 12 = v12 at *; generalize f 13 = v13 at *; generalize f 14 = v14 at *; generalize f 15 = v15 at *; generalize f 16 = v16 at *; generalize f 17 = v17 at *; generalize f 18 = v18 at *; generalize f 19 = v19 at *; generalize f 20 = v20 at *; generalize f 21 = v21 at *; generalize f 22 = v22 at *; generalize f 23 = v23 at *; generalize f 24 = v24 at *; generalize f 25 = v25 at *
      refine wpOp_step rfl (fun K hK => ?_)
      go_simp
      exact hK _ _ ⟨_, rfl, rfl, Below.refl _ _, (fun hc => absurd hc (by decide))⟩
    · obtain rfl := Option.some.inj ho
      have e0 : f 14 = (turn aw ax ay az) := hdep ⟨0, .data⟩ (by simp) rfl
      have e1 : f 15 = (turn cw cx cy cz) := hdep ⟨1, .data⟩ (by simp) rfl
      have e2 : f 16 = (.float .f32 s) := hdep ⟨2, .data⟩ (by simp) rfl
      clear hdep ho hi
      generalize f 11 = v11 at *; generalize f 12 = v12 at *; generalize f 13 = v13 at *; generalize f 14 = v14 at *; generalize f 15 = v15 at *; generalize f 16 = v16 at *; generalize f 17 = v17 at *; generalize f 18 = v18 at *; generalize f 19 = v19 at *; generalize f 20 = v20 at *; generalize f 21 = v21 at *; generalize f 22 = v22 at *; generalize f 23 = v23 at *; generalize f 24 = v24 at *; generalize f 25 = v25 at *
      subst e0 e1 e2
      refine wpOp_step rfl (fun K hK => ?_)
      go_simp
      refine (c_impl_NearTurn ha hc hs _).mono ?_
      rintro e w' ⟨⟨y0, y1, y2, y3, rfl, hv⟩, hb⟩
      exact hK _ _ ⟨_, rfl, ⟨_, _, _, _, rfl, hv⟩, hb, (fun hc => absurd hc (by decide))⟩
    · obtain rfl := Option.some.inj ho
      clear hdep ho hi
      generalize f 11 = v11 at *; generalize f 12 = v12 at *; generalize f 13 = v13 at *; generalize f 14 = v14 at *; generalize f 15 = v15 at *; generalize f 16 = v16 at *; generalize f 17 = v17 at *; generalize f 18 = v18 at *; generalize f 19 = v19 at *; generalize f 20 = v20 at *; generalize f 21 = v21 at *; generalize f 22 = v22 at *; generalize f 23 = v23 at *; generalize f 24 = v24 at *; generalize f 25 = v25 at *
      refine wpOp_step rfl (fun K hK => ?_)
      go_simp
      exact hK _ _ ⟨_, rfl, rfl, Below.refl _ _, (fun hc => absurd hc (by decide))⟩
    · obtain rfl := Option.some.inj ho
      clear hdep ho hi
      generalize f 11 = v11 at *; generalize f 12 = v12 at *; generalize f 13 = v13 at *; generalize f 14 = v14 at *; generalize f 15 = v15 at *; generalize f 16 = v16 at *; generalize f 17 = v17 at *; generalize f 18 = v18 at *; generalize f 19 = v19 at *; generalize f 20 = v20 at *; generalize f 21 = v21 at *; generalize f 22 = v22 at *; generalize f 23 = v23 at *; generalize f 24 = v24 at *; generalize f 25 = v25 at *
      refine wpOp_step rfl (fun K hK => ?_)
      go_simp
      exact hK _ _ ⟨_, rfl, rfl, Below.refl _ _, (fun hc => absurd hc (by decide))⟩
    · obtain rfl := Option.some.inj ho
      clear hdep ho hi
      generalize f 11 = v11 at *; generalize f 12 = v12 at *; generalize f 13 = v13 at *; generalize f 14 = v14 at *; generalize f 15 = v15 at *; generalize f 16 = v16 at *; generalize f 17 = v17 at *; generalize f 18 = v18 at *; generalize f 19 = v19 at *; generalize f 20 = v20 at *; generalize f 21 = v21 at *; generalize f 22 = v22 at *; generalize f 23 = v23 at *; generalize f 24 = v24 at *; generalize f 25 = v25 at *
      refine wpOp_step rfl (fun K hK => ?_)
      go_simp
      exact hK _ _ ⟨_, rfl, rfl, Below.refl _ _, (fun hc => absurd hc (by decide))⟩
    · obtain rfl := Option.some.inj ho
      have e4 : f 18 = (turn cw cx cy cz) := hdep ⟨4, .data⟩ (by simp) rfl
      have e5 : f 19 = (turn dw dx dy dz) := hdep ⟨5, .data⟩ (by simp) rfl
      have e6 : f 20 = (.float .f32 s) := hdep ⟨6, .data⟩ (by simp) rfl
      clear hdep ho hi
      generalize f 11 = v11 at *; generalize f 12 = v12 at *; generalize f 13 = v13 at *; generalize f 14 = v14 at *; generalize f 15 = v15 at *; generalize f 16 = v16 at *; generalize f 17 = v17 at *; generalize f 18 = v18 at *; generalize f 19 = v19 at *; generalize f 20 = v20 at *; generalize f 21 = v21 at *; generalize f 22 = v22 at *; generalize f 23 = v23 at *; generalize f 24 = v24 at *; generalize f 25 = v25 at *
      subst e4 e5 e6
      refine wpOp_step rfl (fun K hK => ?_)
      go_simp
      refine (c_impl_NearTurn hc hd hs _).mono ?_
      rintro e w' ⟨⟨y0, y1, y2, y3, rfl, hv⟩, hb⟩
      exact hK _ _ ⟨_, rfl, ⟨_, _, _, _, rfl, hv⟩, hb, (fun hc => absurd hc (by decide))⟩
    · obtain rfl := Option.some.inj ho
      clear hdep ho hi
      generalize f 11 = v11 at *; generalize f 12 = v12 at *; generalize f 13 = v13 at *; generalize f 14 = v14 at *; generalize f 15 = v15 at *; generalize f 16 = v16 at *; generalize f 17 = v17 at *; generalize f 18 = v18 at *; generalize f 19 = v19 at *; generalize f 20 = v20 at *; generalize f 21 = v21 at *; generalize f 22 = v22 at *; generalize f 23 = v23 at *; generalize f 24 = v24 at *; generalize f 25 = v25 at *
      refine wpOp_step rfl (fun K hK => ?_)
      go_simp
      exact hK _ _ ⟨_, rfl, rfl, Below.refl _ _, (fun hc => absurd hc (by decide))⟩
    · obtain rfl := Option.some.inj ho
      clear hdep ho hi
      generalize f 11 = v11 at *; generalize f 12 = v12 at *; generalize f 13 = v13 at *; generalize f 14 = v14 at *; generalize f 15 = v15 at *; generalize f 16 = v16 at *; generalize f 17 = v17 at *; generalize f 18 = v18 at *; generalize f 19 = v19 at *; generalize f 20 = v20 at *; generalize f 21 = v21 at *; generalize f 22 = v22 at *; generalize f 23 = v23 at *; generalize f 24 = v24 at *; generalize f 25 = v25 at *
      refine wpOp_step rfl (fun K hK => ?_)
      go_simp
      exact hK _ _ ⟨_, rfl, rfl, Below.refl _ _, (fun hc => absurd hc (by decide))⟩
    · obtain rfl := Option.some.inj ho
      clear hdep ho hi
      generalize f 11 = v11 at *; generalize f 12 = v12 at *; generalize f 13 = v13 at *; generalize f 14 = v14 at *; generalize f 15 = v15 at *; generalize f 16 = v16 at *; generalize f 17 = v17 at *; generalize f 18 = v18 at *; generalize f 19 = v19 at *; generalize f 20 = v20 at *; generalize f 21 = v21 at *; generalize f 22 = v22 at *; generalize f 23 = v23 at *; generalize f 24 = v24 at *; generalize f 25 = v25 at *
      refine wpOp_step rfl (fun K hK => ?_)
      go_simp
      exact hK _ _ ⟨_, rfl, rfl, Below.refl _ _, (fun hc => absurd hc (by decide))⟩
    · obtain rfl := Option.some.inj ho
      have e8 : f 22 = (turn dw dx dy dz) := hdep ⟨8, .data⟩ (by simp) rfl
      have e9 : f 23 = (turn ew ex ey ez) := hdep ⟨9, .data⟩ (by simp) rfl
      have e10 : f 24 = (.float .f32 s) := hdep ⟨10, .data⟩ (by simp) rfl
      clear hdep ho hi
      generalize f 11 = v11 at *; generalize f 12 = v12 at *; generalize f 13 = v13 at *; generalize f 14 = v14 at *; generalize f 15 = v15 at *; generalize f 16 = v16 at *; generalize f 17 = v17 at *; generalize f 18 = v18 at *; generalize f 19 = v19 at *; generalize f 20 = v20 at *; generalize f 21 = v21 at *; generalize f 22 = v22 at *; generalize f 23 = v23 at *; generalize f 24 = v24 at *; generalize f 25 = v25 at *
      subst e8 e9 e10
      refine wpOp_step rfl (fun K hK => ?_)
      go_simp
      refine (c_impl_NearTurn hd he hs _).mono ?_
      rintro e w' ⟨⟨y0, y1, y2, y3, rfl, hv⟩, hb⟩
      exact hK _ _ ⟨_, rfl, ⟨_, _, _, _, rfl, hv⟩, hb, (fun hc => absurd hc (by decide))⟩
    · obtain rfl := Option.some.inj ho
      clear hdep ho hi
      generalize f 11 = v11 at *; generalize f 12 = v12 at *; generalize f 13 = v13 at *; generalize f 14 = v14 at *; generalize f 15 = v15 at *; generalize f 16 = v16 at *; generalize f 17 = v17 at *; generalize f 18 = v18 at *; generalize f 19 = v19 at *; generalize f 20 = v20 at *; generalize f 21 = v21 at *; generalize f 22 = v22 at *; generalize f 23 = v23 at *; generalize f 24 = v24 at *; generalize f 25 = v25 at *
      refine wpOp_step rfl (fun K hK => ?_)
      go_simp
      exact hK _ _ ⟨_, rfl, ⟨_, rfl, own4_new _ _ hsz _ _ _ _ _⟩, (Below.refl _ _).alloc (Nat.le_refl _) _, fun _ p hp => by cases hp; exact ⟨hsz, Nat.le_refl _, by simp⟩⟩
    · obtain rfl := Option.some.inj ho
      clear hdep ho hi
      generalize f 11 = v11 at *; generalize f 12 = v12 at *; generalize f 13 = v13 at *; generalize f 14 = v14 at *; generalize f 15 = v15 at *; generalize f 16 = v16 at *; generalize f 17 = v17 at *; generalize f 18 = v18 at *; generalize f 19 = v19 at *; generalize f 20 = v20 at *; generalize f 21 = v21 at *; generalize f 22 = v22 at *; generalize f 23 = v23 at *; generalize f 24 = v24 at *; generalize f 25 = v25 at *
      refine wpOp_step rfl (fun K hK => ?_)
      go_simp
      exact hK _ _ ⟨_, rfl, ⟨_, rfl, own4_new _ _ hsz _ _ _ _ _⟩, (Below.refl _ _).alloc (Nat.le_refl _) _, fun _ p hp => by cases hp; exact ⟨hsz, Nat.le_refl _, by simp⟩⟩
    · obtain rfl := Option.some.inj ho
      clear hdep ho hi
      generalize f 11 = v11 at *; generalize f 12 = v12 at *; generalize f 13 = v13 at *; generalize f 14 = v14 at *; generalize f 15 = v15 at *; generalize f 16 = v16 at *; generalize f 17 = v17 at *; generalize f 18 = v18 at *; generalize f 19 = v19 at *; generalize f 20 = v20 at *; generalize f 21 = v21 at *; generalize f 22 = v22 at *; generalize f 23 = v23 at *; generalize f 24 = v24 at *; generalize f 25 = v25 at *
      refine wpOp_step rfl (fun K hK => ?_)
      go_simp
      exact hK _ _ ⟨_, rfl, ⟨_, rfl, own4_new _ _ hsz _ _ _ _ _⟩, (Below.refl _ _).alloc (Nat.le_refl _) _, fun _ p hp => by cases hp; exact ⟨hsz, Nat.le_refl _, by simp⟩⟩
    · obtain rfl := Option.some.inj ho
      obtain ⟨g12, e12, hg12, ⟨q0, q1, q2, q3, ho12⟩, hf12⟩ : isOwn4 _ (f 11) w1 := hdep ⟨12, .data⟩ (by simp) rfl
      have hown : HasF4 w1 g12 q0 q1 q2 q3 := ⟨ho12, hf12⟩
      have hlt := hown.lt
      clear ho12 hf12
      obtain ⟨w3, x3, y3, z3, e3, hv3⟩ : isTurn _ (f 17) w1 := hdep ⟨3, .data⟩ (by simp) rfl
      clear hdep ho hi
      generalize f 11 = v11 at *; generalize f 12 = v12 at *; generalize f 13 = v13 at *; generalize f 14 = v14 at *; generalize f 15 = v15 at *; generalize f 16 = v16 at *; generalize f 17 = v17 at *; generalize f 18 = v18 at *; generalize f 19 = v19 at *; generalize f 20 = v20 at *; generalize f 21 = v21 at *; generalize f 22 = v22 at *; generalize f 23 = v23 at *; generalize f 24 = v24 at *; generalize f 25 = v25 at *
      subst e12 e3
      have hinto := into_put4 w3 x3 y3 z3 hown
      have hhas := has_put4 w3 x3 y3 z3 hown
      obtain ⟨⟨m0, m1, m2, m3⟩, mf⟩ := id hown
      refine wpOp_step rfl (fun K hK => ?_)
      go_simp
      exact hK _ _ ⟨rfl, _, rfl, ⟨_, _, _, _, hhas, hv3⟩, hinto⟩
    · obtain rfl := Option.some.inj ho
      obtain ⟨g13, e13, hg13, ⟨q0, q1, q2, q3, ho13⟩, hf13⟩ : isOwn4 _ (f 12) w1 := hdep ⟨13, .data⟩ (by simp) rfl
      have hown : HasF4 w1 g13 q0 q1 q2 q3 := ⟨ho13, hf13⟩
      have hlt := hown.lt
      clear ho13 hf13
      obtain ⟨w7, x7, y7, z7, e7, hv7⟩ : isTurn _ (f 21) w1 := hdep ⟨7, .data⟩ (by simp) rfl
      clear hdep ho hi
      generalize f 11 = v11 at *; generalize f 12 = v12 at *; generalize f 13 = v13 at *; generalize f 14 = v14 at *; generalize f 15 = v15 at *; generalize f 16 = v16 at *; generalize f 17 = v17 at *; generalize f 18 = v18 at *; generalize f 19 = v19 at *; generalize f 20 = v20 at *; generalize f 21 = v21 at *; generalize f 22 = v22 at *; generalize f 23 = v23 at *; generalize f 24 = v24 at *; generalize f 25 = v25 at *
      subst e13 e7
      have hinto := into_put4 w7 x7 y7 z7 hown
      have hhas := has_put4 w7 x7 y7 z7 hown
      obtain ⟨⟨m0, m1, m2, m3⟩, mf⟩ := id hown
      refine wpOp_step rfl (fun K hK => ?_)
      go_simp
      exact hK _ _ ⟨rfl, _, rfl, ⟨_, _, _, _, hhas, hv7⟩, hinto⟩
    · obtain rfl := Option.some.inj ho
      obtain ⟨g14, e14, hg14, ⟨q0, q1, q2, q3, ho14⟩, hf14⟩ : isOwn4 _ (f 13) w1 := hdep ⟨14, .data⟩ (by simp) rfl
      have hown : HasF4 w1 g14 q0 q1 q2 q3 := ⟨ho14, hf14⟩
      have hlt := hown.lt
      clear ho14 hf14
      obtain ⟨w11, x11, y11, z11, e11, hv11⟩ : isTurn _ (f 25) w1 := hdep ⟨11, .data⟩ (by simp) rfl
      clear hdep ho hi
      generalize f 11 = v11 at *; generalize f 12 = v12 at *; generalize f 13 = v13 at *; generalize f 14 = v14 at *; generalize f 15 = v15 at *; generalize f 16 = v16 at *; generalize f 17 = v17 at *; generalize f 18 = v18 at *; generalize f 19 = v19 at *; generalize f 20 = v20 at *; generalize f 21 = v21 at *; generalize f 22 = v22 at *; generalize f 23 = v23 at *; generalize f 24 = v24 at *; generalize f 25 = v25 at *
      subst e14 e11
      have hinto := into_put4 w11 x11 y11 z11 hown
      have hhas := has_put4 w11 x11 y11 z11 hown
      obtain ⟨⟨m0, m1, m2, m3⟩, mf⟩ := id hown
      refine wpOp_step rfl (fun K hK => ?_)
      go_simp
      exact hK _ _ ⟨rfl, _, rfl, ⟨_, _, _, _, hhas, hv11⟩, hinto⟩
  · intro f w1 hbase hI hS hF
    simp only [mix, List.contains_cons, List.contains_nil, Nat.reduceBEq, Bool.or_true, Bool.or_false, Bool.false_eq_true, if_true, if_false, Nat.reduceAdd, Nat.zero_add]
    obtain ⟨hp0, hp1, hp2, hp3, hp4, hbw, hsz⟩ := hI
    clear hbel
    have hbel := hbw
    clear hbw
    obtain ⟨b1_11, e12, hg1_11, _, _⟩ : isOwn4 _ (f 11) w1 := hF 12 (by simp)
    obtain ⟨w1_11, x1_11, y1_11, z1_11, hp5, hv1_11⟩ : isPut4 (nearC (Ca) (Cc) (Cs)) b1_11 w1 := put_at e12 (hF 15 (by simp))
    obtain ⟨b1_12, e13, hg1_12, _, _⟩ : isOwn4 _ (f 12) w1 := hF 13 (by simp)
    obtain ⟨w1_12, x1_12, y1_12, z1_12, hp6, hv1_12⟩ : isPut4 (nearC (Cc) (Cd) (Cs)) b1_12 w1 := put_at e13 (hF 16 (by simp))
    obtain ⟨b1_13, e14, hg1_13, _, _⟩ : isOwn4 _ (f 13) w1 := hF 14 (by simp)
    obtain ⟨w1_13, x1_13, y1_13, z1_13, hp7, hv1_13⟩ : isPut4 (nearC (Cd) (Ce) (Cs)) b1_13 w1 := put_at e14 (hF 17 (by simp))
    have hne1_11_12 : b1_11 ≠ b1_12 := hS.ne 11 12 _ _ (by decide) (by decide) (by decide) e12 e13
    have hne1_11_13 : b1_11 ≠ b1_13 := hS.ne 11 13 _ _ (by decide) (by decide) (by decide) e12 e14
    have hne1_12_13 : b1_12 ≠ b1_13 := hS.ne 12 13 _ _ (by decide) (by decide) (by decide) e13 e14
    clear hF hS hbase
    generalize f 11 = v11 at *; generalize f 12 = v12 at *; generalize f 13 = v13 at *; generalize f 14 = v14 at *; generalize f 15 = v15 at *; generalize f 16 = v16 at *; generalize f 17 = v17 at *; generalize f 18 = v18 at *; generalize f 19 = v19 at *; generalize f 20 = v20 at *; generalize f 21 = v21 at *; generalize f 22 = v22 at *; generalize f 23 = v23 at *; generalize f 24 = v24 at *; generalize f 25 = v25 at *
    subst e12 e13 e14
    have Lw1hp0 := hp0.lt; have Lw1hp1 := hp1.lt; have Lw1hp2 := hp2.lt; have Lw1hp3 := hp3.lt; have Lw1hp4 := hp4.lt; have Lw1hp5 := hp5.lt; have Lw1hp6 := hp6.lt; have Lw1hp7 := hp7.lt
    obtain ⟨⟨c0_0, c0_1, c0_2, c0_3⟩, fz0⟩ := id hp0
    obtain ⟨⟨c1_0, c1_1, c1_2, c1_3⟩, fz1⟩ := id hp1
    obtain ⟨⟨c2_0, c2_1, c2_2, c2_3⟩, fz2⟩ := id hp2
    obtain ⟨⟨c3_0, c3_1, c3_2, c3_3⟩, fz3⟩ := id hp3
    obtain ⟨⟨c4_0, c4_1, c4_2, c4_3⟩, fz4⟩ := id hp4
    obtain ⟨⟨c5_0, c5_1, c5_2, c5_3⟩, fz5⟩ := id hp5
    obtain ⟨⟨c6_0, c6_1, c6_2, c6_3⟩, fz6⟩ := id hp6
    obtain ⟨⟨c7_0, c7_1, c7_2, c7_3⟩, fz7⟩ := id hp7
    go_upto_region 2 with fail
    refine wp_name (fun wr => HasF4 wr w.heap.size aw ax ay az ∧ HasF4 wr (w.heap.size + 1) cw cx cy cz ∧ HasF4 wr (w.heap.size + 2) dw dx dy dz ∧ HasF4 wr (w.heap.size + 3) ew ex ey ez ∧ HasF4 wr (w.heap.size + 4) 0 0 0 0 ∧ HasF4 wr b1_11 w1_11 x1_11 y1_11 z1_11 ∧ HasF4 wr b1_12 w1_12 x1_12 y1_12 z1_12 ∧ HasF4 wr b1_13 w1_13 x1_13 y1_13 z1_13 ∧ Below w.heap.size w wr) ⟨hp0, hp1, hp2, hp3, hp4, hp5, hp6, hp7, hbel⟩ ?_
    clear hbel hsz hp0 hp1 hp2 hp3 hp4 hp5 hp6 hp7 c0_0 c0_1 c0_2 c0_3 c1_0 c1_1 c1_2 c1_3 c2_0 c2_1 c2_2 c2_3 c3_0 c3_1 c3_2 c3_3 c4_0 c4_1 c4_2 c4_3 c5_0 c5_1 c5_2 c5_3 c6_0 c6_1 c6_2 c6_3 c7_0 c7_1 c7_2 c7_3 fz0 fz1 fz2 fz3 fz4 fz5 fz6 fz7
    rintro W2n ⟨hp0, hp1, hp2, hp3, hp4, hp5, hp6, hp7, hbel⟩
    have LW2nhp0 := hp0.lt; have LW2nhp1 := hp1.lt; have LW2nhp2 := hp2.lt; have LW2nhp3 := hp3.lt; have LW2nhp4 := hp4.lt; have LW2nhp5 := hp5.lt; have LW2nhp6 := hp6.lt; have LW2nhp7 := hp7.lt; have SW2n := hbel.size
    refine wp_region_drawn [(26, isV (turn w1_11 x1_11 y1_11 z1_11)), (27, isV (turn w1_12 x1_12 y1_12 z1_12)), (28, isV (.float .f32 s)), (29, isTurn (nearC (nearC (Ca) (Cc) (Cs)) (nearC (Cc) (Cd) (Cs)) (Cs))), (30, isV (turn w1_12 x1_12 y1_12 z1_12)), (31, isV (turn w1_13 x1_13 y1_13 z1_13)), (32, isV (.float .f32 s)), (33, isTurn (nearC (nearC (Cc) (Cd) (Cs)) (nearC (Cd) (Ce) (Cs)) (Cs))), (34, isV (.float .f32 s)), (35, isTurn (nearC (nearC (nearC (Ca) (Cc) (Cs)) (nearC (Cc) (Cd) (Cs)) (Cs)) (nearC (nearC (Cc) (Cd) (Cs)) (nearC (Cd) (Ce) (Cs)) (Cs)) (Cs)))]
      (fun wr => HasF4 wr w.heap.size aw ax ay az ∧ HasF4 wr (w.heap.size + 1) cw cx cy cz ∧ HasF4 wr (w.heap.size + 2) dw dx dy dz ∧ HasF4 wr (w.heap.size + 3) ew ex ey ez ∧ HasF4 wr (w.heap.size + 4) 0 0 0 0 ∧ HasF4 wr b1_11 w1_11 x1_11 y1_11 z1_11 ∧ HasF4 wr b1_12 w1_12 x1_12 y1_12 z1_12 ∧ HasF4 wr b1_13 w1_13 x1_13 y1_13 z1_13 ∧ Below W2n.heap.size W2n wr)
      (by kernel_rfl) (by kernel_rfl) (by kernel_rfl) (by kernel_rfl) (Nat.le_of_ble_eq_true (by kernel_rfl)) (by kernel_rfl) ?_ (fun _ _ hb h => ⟨h.1.below hb, h.2.1.below hb, h.2.2.1.below hb, h.2.2.2.1.below hb, h.2.2.2.2.1.below hb, h.2.2.2.2.2.1.below hb, h.2.2.2.2.2.2.1.below hb, h.2.2.2.2.2.2.2.1.below hb, h.2.2.2.2.2.2.2.2.trans (hb.mono h.2.2.2.2.2.2.2.2.size)⟩) ⟨hp0, hp1, hp2, hp3, hp4, hp5, hp6, hp7, (Below.refl _ _).drew⟩ ?_ ?_
    · intro p hp
      simp only [List.mem_cons, List.not_mem_nil, or_false] at hp
      rcases hp with rfl | rfl | rfl | rfl | rfl | rfl | rfl | rfl | rfl | rfl <;> first | exact mono_isV _ | exact mono_isVec _ | exact mono_isTurn _ | exact mono_isFlt _ _ | exact mono_isOwn3 _ | exact mono_isOwn4 _
    · intro i o hi ho f w1 hI hdep
      simp only [List.map_cons, List.map_nil, mix, List.contains_cons, List.contains_nil, Nat.reduceBEq, Bool.or_true, Bool.or_false, Bool.false_eq_true, if_true, if_false, Nat.reduceAdd, Nat.zero_add]
      have hcase : i = 0 ∨ i = 1 ∨ i = 2 ∨ i = 3 ∨ i = 4 ∨ i = 5 ∨ i = 6 ∨ i = 7 ∨ i = 8 ∨ i = 9 := by simp at hi; omega
      obtain ⟨⟨⟨c0_0, c0_1, c0_2, c0_3⟩, fz0⟩, ⟨⟨c1_0, c1_1, c1_2, c1_3⟩, fz1⟩, ⟨⟨c2_0, c2_1, c2_2, c2_3⟩, fz2⟩, ⟨⟨c3_0, c3_1, c3_2, c3_3⟩, fz3⟩, ⟨⟨c4_0, c4_1, c4_2, c4_3⟩, fz4⟩, ⟨⟨c5_0, c5_1, c5_2, c5_3⟩, fz5⟩, ⟨⟨c6_0, c6_1, c6_2, c6_3⟩, fz6⟩, ⟨⟨c7_0, c7_1, c7_2, c7_3⟩, fz7⟩, hb1⟩ := hI
      have hsz := hb1.size
      rcases hcase with rfl | rfl | rfl | rfl | rfl | rfl | rfl | rfl | rfl | rfl
      · obtain rfl := Option.some.inj ho
        clear hdep ho hi
        generalize f 26 = v26 at *; generalize f 27 = v27 at *; generalize f 28 = v28 at *; generalize f 29 = v29 at *; generalize f 30 = v30 at *; generalize f 31 = v31 at *; generalize f 32 = v32 at *; generalize f 33 = v33 at *; generalize f 34 = v34 at *; generalize f 35 = v35 at *
        refine wpOp_step rfl (fun K hK => ?_)
        go_simp
        exact hK _ _ ⟨_, rfl, (fun p hp => by cases hp; rfl), Below.refl _ _⟩
      · obtain rfl := Option.some.inj ho
        clear hdep ho hi
        generalize f 26 = v26 at *; generalize f 27 = v27 at *; generalize f 28 = v28 at *; generalize f 29 = v29 at *; generalize f 30 = v30 at *; generalize f 31 = v31 at *; generalize f 32 = v32 at *; generalize f 33 = v33 at *; generalize f 34 = v34 at *; generalize f 35 = v35 at *
        refine wpOp_step rfl (fun K hK => ?_)
        go_simp
        exact hK _ _ ⟨_, rfl, (fun p hp => by cases hp; rfl), Below.refl _ _⟩
      · obtain rfl := Option.some.inj ho
        clear hdep ho hi
        generalize f 26 = v26 at *; generalize f 27 = v27 at *; generalize f 28 = v28 at *; generalize f 29 = v29 at *; generalize f 30 = v30 at *; generalize f 31 = v31 at *; generalize f 32 = v32 at *; generalize f 33 = v33 at *; generalize f 34 = v34 at *; generalize f 35 = v35 at *
        refine wpOp_step rfl (fun K hK => ?_)
        go_simp
        exact hK _ _ ⟨_, rfl, (fun p hp => by cases hp; rfl), Below.refl _ _⟩
      · obtain rfl := Option.some.inj ho
        have e0 : f 26 = (turn w1_11 x1_11 y1_11 z1_11) := hdep ⟨0, .data⟩ (by simp) rfl
        have e1 : f 27 = (turn w1_12 x1_12 y1_12 z1_12) := hdep ⟨1, .data⟩ (by simp) rfl
        have e2 : f 28 = (.float .f32 s) := hdep ⟨2, .data⟩ (by simp) rfl
        clear hdep ho hi
        generalize f 26 = v26 at *; generalize f 27 = v27 at *; generalize f 28 = v28 at *; generalize f 29 = v29 at *; generalize f 30 = v30 at *; generalize f 31 = v31 at *; generalize f 32 = v32 at *; generalize f 33 = v33 at *; generalize f 34 = v34 at *; generalize f 35 = v35 at *
        subst e0 e1 e2
        refine wpOp_step rfl (fun K hK => ?_)
        go_simp
        refine (c_impl_NearTurn hv1_11 hv1_12 hs _).mono ?_
        rintro e w' ⟨⟨y0, y1, y2, y3, rfl, hv⟩, hb⟩
        exact hK _ _ ⟨_, rfl, (fun p hp => by cases hp; exact ⟨_, _, _, _, rfl, hv⟩), hb⟩
      · obtain rfl := Option.some.inj ho
        clear hdep ho hi
        generalize f 26 = v26 at *; generalize f 27 = v27 at *; generalize f 28 = v28 at *; generalize f 29 = v29 at *; generalize f 30 = v30 at *; generalize f 31 = v31 at *; generalize f 32 = v32 at *; generalize f 33 = v33 at *; generalize f 34 = v34 at *; generalize f 35 = v35 at *
        refine wpOp_step rfl (fun K hK => ?_)
        go_simp
        exact hK _ _ ⟨_, rfl, (fun p hp => by cases hp; rfl), Below.refl _ _⟩
      · obtain rfl := Option.some.inj ho
        clear hdep ho hi
        generalize f 26 = v26 at *; generalize f 27 = v27 at *; generalize f 28 = v28 at *; generalize f 29 = v29 at *; generalize f 30 = v30 at *; generalize f 31 = v31 at *; generalize f 32 = v32 at *; generalize f 33 = v33 at *; generalize f 34 = v34 at *; generalize f 35 = v35 at *
        refine wpOp_step rfl (fun K hK => ?_)
        go_simp
        exact hK _ _ ⟨_, rfl, (fun p hp => by cases hp; rfl), Below.refl _ _⟩
      · obtain rfl := Option.some.inj ho
        clear hdep ho hi
        generalize f 26 = v26 at *; generalize f 27 = v27 at *; generalize f 28 = v28 at *; generalize f 29 = v29 at *; generalize f 30 = v30 at *; generalize f 31 = v31 at *; generalize f 32 = v32 at *; generalize f 33 = v33 at *; generalize f 34 = v34 at *; generalize f 35 = v35 at *
        refine wpOp_step rfl (fun K hK => ?_)
        go_simp
        exact hK _ _ ⟨_, rfl, (fun p hp => by cases hp; rfl), Below.refl _ _⟩
      · obtain rfl := Option.some.inj ho
        have e4 : f 30 = (turn w1_12 x1_12 y1_12 z1_12) := hdep ⟨4, .data⟩ (by simp) rfl
        have e5 : f 31 = (turn w1_13 x1_13 y1_13 z1_13) := hdep ⟨5, .data⟩ (by simp) rfl
        have e6 : f 32 = (.float .f32 s) := hdep ⟨6, .data⟩ (by simp) rfl
        clear hdep ho hi
        generalize f 26 = v26 at *; generalize f 27 = v27 at *; generalize f 28 = v28 at *; generalize f 29 = v29 at *; generalize f 30 = v30 at *; generalize f 31 = v31 at *; generalize f 32 = v32 at *; generalize f 33 = v33 at *; generalize f 34 = v34 at *; generalize f 35 = v35 at *
        subst e4 e5 e6
        refine wpOp_step rfl (fun K hK => ?_)
        go_simp
        refine (c_impl_NearTurn hv1_12 hv1_13 hs _).mono ?_
        rintro e w' ⟨⟨y0, y1, y2, y3, rfl, hv⟩, hb⟩
        exact hK _ _ ⟨_, rfl, (fun p hp => by cases hp; exact ⟨_, _, _, _, rfl, hv⟩), hb⟩
      · obtain rfl := Option.some.inj ho
        clear hdep ho hi
        generalize f 26 = v26 at *; generalize f 27 = v27 at *; generalize f 28 = v28 at *; generalize f 29 = v29 at *; generalize f 30 = v30 at *; generalize f 31 = v31 at *; generalize f 32 = v32 at *; generalize f 33 = v33 at *; generalize f 34 = v34 at *; generalize f 35 = v35 at *
        refine wpOp_step rfl (fun K hK => ?_)
        go_simp
        exact hK _ _ ⟨_, rfl, (fun p hp => by cases hp; rfl), Below.refl _ _⟩
      · obtain rfl := Option.some.inj ho
        obtain ⟨w3, x3, y3, z3, e3, hv3⟩ : isTurn _ (f 29) w1 := hdep ⟨3, .data⟩ (by simp) rfl
        obtain ⟨w7, x7, y7, z7, e7, hv7⟩ : isTurn _ (f 33) w1 := hdep ⟨7, .data⟩ (by simp) rfl
        have e8 : f 34 = (.float .f32 s) := hdep ⟨8, .data⟩ (by simp) rfl
        clear hdep ho hi
        generalize f 26 = v26 at *; generalize f 27 = v27 at *; generalize f 28 = v28 at *; generalize f 29 = v29 at *; generalize f 30 = v30 at *; generalize f 31 = v31 at *; generalize f 32 = v32 at *; generalize f 33 = v33 at *; generalize f 34 = v34 at *; generalize f 35 = v35 at *
        subst e3 e7 e8
        refine wpOp_step rfl (fun K hK => ?_)
        go_simp
        refine (c_impl_NearTurn hv3 hv7 hs _).mono ?_
        rintro e w' ⟨⟨y0, y1, y2, y3, rfl, hv⟩, hb⟩
        exact hK _ _ ⟨_, rfl, (fun p hp => by cases hp; exact ⟨_, _, _, _, rfl, hv⟩), hb⟩
    · intro f w1 hI hF
      simp only [List.map_cons, List.map_nil, mix, List.contains_cons, List.contains_nil, Nat.reduceBEq, Bool.or_true, Bool.or_false, Bool.false_eq_true, if_true, if_false, Nat.reduceAdd, Nat.zero_add]
      obtain ⟨hp0, hp1, hp2, hp3, hp4, hp5, hp6, hp7, hb1⟩ := hI
      have hsz := hb1.size
      replace hbel := hbel.trans (hb1.mono hbel.size)
      obtain ⟨w3_35, x3_35, y3_35, z3_35, e9, hv3_35⟩ : isTurn _ (f 35) w1 := hF 9 (by simp)
      clear hF
      generalize f 26 = v26 at *; generalize f 27 = v27 at *; generalize f 28 = v28 at *; generalize f 29 = v29 at *; generalize f 30 = v30 at *; generalize f 31 = v31 at *; generalize f 32 = v32 at *; generalize f 33 = v33 at *; generalize f 34 = v34 at *; generalize f 35 = v35 at *
      subst e9
      have Lw3hp0 := hp0.lt; have Lw3hp1 := hp1.lt; have Lw3hp2 := hp2.lt; have Lw3hp3 := hp3.lt; have Lw3hp4 := hp4.lt; have Lw3hp5 := hp5.lt; have Lw3hp6 := hp6.lt; have Lw3hp7 := hp7.lt
      obtain ⟨⟨c0_0, c0_1, c0_2, c0_3⟩, fz0⟩ := id hp0
      obtain ⟨⟨c1_0, c1_1, c1_2, c1_3⟩, fz1⟩ := id hp1
      obtain ⟨⟨c2_0, c2_1, c2_2, c2_3⟩, fz2⟩ := id hp2
      obtain ⟨⟨c3_0, c3_1, c3_2, c3_3⟩, fz3⟩ := id hp3
      obtain ⟨⟨c4_0, c4_1, c4_2, c4_3⟩, fz4⟩ := id hp4
      obtain ⟨⟨c5_0, c5_1, c5_2, c5_3⟩, fz5⟩ := id hp5
      obtain ⟨⟨c6_0, c6_1, c6_2, c6_3⟩, fz6⟩ := id hp6
      obtain ⟨⟨c7_0, c7_1, c7_2, c7_3⟩, fz7⟩ := id hp7
      change wpAny _ _ _ _ (0 + 1) _ _ _
      refine wpAny_all (rs := [10]) (by kernel_rfl) (by simp) ?_
      intro i hi
      obtain rfl : i = 10 := by simpa using hi
      clear hi
      refine wpOp_step rfl (fun K hK => ?_)
      go_simp
      refine hK _ _ (wpAny_done (by kernel_rfl) ?_ _)
      clear hK K
      go_wp2_with fail
      apply ret_turn; exact hv3_35.w; exact hv3_35.x; exact hv3_35.y; exact hv3_35.z; simp [results, Try.results11, go_sem, *]; rfl; (repeat (first | exact Below.refl _ _ | (refine below_drewN ?_ _) | (refine Below.drew ?_) | (refine Below.setCell ?_ (by first | omega | (simp; try omega)) _) | (refine Below.alloc ?_ (by first | omega | (simp; try omega)) _) | (refine Below.trans ?_ (Below.mono (by assumption) (by first | omega | (simp; try omega))))))

set_option maxHeartbeats 40000000 in
set_option maxRecDepth 20000 in
theorem c_spec_CurveTurn {aw ax ay az cw cx cy cz dw dx dy dz ew ex ey ez s : Nat} {Ca : V4} {Cc : V4} {Cd : V4} {Ce : V4} {Cs : Option Nat} (ha : Fv4 aw ax ay az Ca) (hc : Fv4 cw cx cy cz Cc) (hd : Fv4 dw dx dy dz Cd) (he : Fv4 ew ex ey ez Ce) (hs : Fv .f32 s Cs) (w : World) : Calls Try.prog 9 #[turn aw ax ay az, turn cw cx cy cz, turn dw dx dy dz, turn ew ex ey ez, .float .f32 s] w (RetT (curveC Ca Cc Cd Ce Cs) w) := by
  go_enter Try.func9, Try.ntmps9
  go_upto_region 1 with fail
  refine wp_name (fun wr => HasF4 wr w.heap.size aw ax ay az ∧ HasF4 wr (w.heap.size + 1) cw cx cy cz ∧ HasF4 wr (w.heap.size + 2) dw dx dy dz ∧ HasF4 wr (w.heap.size + 3) ew ex ey ez ∧ HasF4 wr (w.heap.size + 4) 0 0 0 0 ∧ Below w.heap.size w wr) ⟨⟨⟨by go_simp, by go_simp, by go_simp, by go_simp⟩, fun o => by go_simp⟩, ⟨⟨by go_simp, by go_simp, by go_simp, by go_simp⟩, fun o => by go_simp⟩, ⟨⟨by go_simp, by go_simp, by go_simp, by go_simp⟩, fun o => by go_simp⟩, ⟨⟨by go_simp, by go_simp, by go_simp, by go_simp⟩, fun o => by go_simp⟩, ⟨⟨by go_simp, by go_simp, by go_simp, by go_simp⟩, fun o => by go_simp⟩, by (repeat (first | exact Below.refl _ _ | (refine below_drewN ?_ _) | (refine Below.drew ?_) | (refine Below.setCell ?_ (by first | omega | (simp; try omega)) _) | (refine Below.alloc ?_ (by first | omega | (simp; try omega)) _) | (refine Below.trans ?_ (Below.mono (by assumption) (by first | omega | (simp; try omega))))))⟩ ?_
  rintro W1 ⟨hp0, hp1, hp2, hp3, hp4, hbel⟩
  have LW1hp0 := hp0.lt; have LW1hp1 := hp1.lt; have LW1hp2 := hp2.lt; have LW1hp3 := hp3.lt; have LW1hp4 := hp4.lt; have SW1 := hbel.size
  obtain ⟨⟨c0_0, c0_1, c0_2, c0_3⟩, fz0⟩ := id hp0
  obtain ⟨⟨c1_0, c1_1, c1_2, c1_3⟩, fz1⟩ := id hp1
  obtain ⟨⟨c2_0, c2_1, c2_2, c2_3⟩, fz2⟩ := id hp2
  obtain ⟨⟨c3_0, c3_1, c3_2, c3_3⟩, fz3⟩ := id hp3
  obtain ⟨⟨c4_0, c4_1, c4_2, c4_3⟩, fz4⟩ := id hp4
  go_wp2_with fail
  refine (c_spec_l02Near ha hc hs _).mono ?_
  rintro e W1c ⟨⟨ws1, xs1, ys1, zs1, rfl, hv1⟩, hb⟩
  clear c0_0 c0_1 c0_2 c0_3 c1_0 c1_1 c1_2 c1_3 c2_0 c2_1 c2_2 c2_3 c3_0 c3_1 c3_2 c3_3 c4_0 c4_1 c4_2 c4_3 fz0 fz1 fz2 fz3 fz4
  replace hp0 := hp0.below hb
  replace hp1 := hp1.below hb
  replace hp2 := hp2.below hb
  replace hp3 := hp3.below hb
  replace hp4 := hp4.below hb
  replace hbel := hbel.trans (hb.mono hbel.size)
  clear hb
  have LW1chp0 := hp0.lt; have LW1chp1 := hp1.lt; have LW1chp2 := hp2.lt; have LW1chp3 := hp3.lt; have LW1chp4 := hp4.lt; have SW1c := hbel.size
  obtain ⟨⟨c0_0, c0_1, c0_2, c0_3⟩, fz0⟩ := id hp0
  obtain ⟨⟨c1_0, c1_1, c1_2, c1_3⟩, fz1⟩ := id hp1
  obtain ⟨⟨c2_0, c2_1, c2_2, c2_3⟩, fz2⟩ := id hp2
  obtain ⟨⟨c3_0, c3_1, c3_2, c3_3⟩, fz3⟩ := id hp3
  obtain ⟨⟨c4_0, c4_1, c4_2, c4_3⟩, fz4⟩ := id hp4
  go_upto_region 2 with fail
  refine wp_name (fun wr => HasF4 wr w.heap.size aw ax ay az ∧ HasF4 wr (w.heap.size + 1) cw cx cy cz ∧ HasF4 wr (w.heap.size + 2) dw dx dy dz ∧ HasF4 wr (w.heap.size + 3) ew ex ey ez ∧ HasF4 wr (w.heap.size + 4) 0 0 0 0 ∧ HasF4 wr W1c.heap.size ws1 xs1 ys1 zs1 ∧ Below w.heap.size w wr) ⟨by (repeat (first | assumption | (refine HasF3.set ?_ _ _ (by first | omega | (simp; try omega))) | (refine HasF4.set ?_ _ _ (by first | omega | (simp; try omega))) | (refine HasF3.alloc ?_ _) | (refine HasF4.alloc ?_ _) | (refine HasF3.drewN ?_ _) | (refine HasF4.drewN ?_ _))), by (repeat (first | assumption | (refine HasF3.set ?_ _ _ (by first | omega | (simp; try omega))) | (refine HasF4.set ?_ _ _ (by first | omega | (simp; try omega))) | (refine HasF3.alloc ?_ _) | (refine HasF4.alloc ?_ _) | (refine HasF3.drewN ?_ _) | (refine HasF4.drewN ?_ _))), by (repeat (first | assumption | (refine HasF3.set ?_ _ _ (by first | omega | (simp; try omega))) | (refine HasF4.set ?_ _ _ (by first | omega | (simp; try omega))) | (refine HasF3.alloc ?_ _) | (refine HasF4.alloc ?_ _) | (refine HasF3.drewN ?_ _) | (refine HasF4.drewN ?_ _))), by (repeat (first | assumption | (refine HasF3.set ?_ _ _ (by first | omega | (simp; try omega))) | (refine HasF4.set ?_ _ _ (by first | omega | (simp; try omega))) | (refine HasF3.alloc ?_ _) | (refine HasF4.alloc ?_ _) | (refine HasF3.drewN ?_ _) | (refine HasF4.drewN ?_ _))), by (repeat (first | assumption | (refine HasF3.set ?_ _ _ (by first | omega | (simp; try omega))) | (refine HasF4.set ?_ _ _ (by first | omega | (simp; try omega))) | (refine HasF3.alloc ?_ _) | (refine HasF4.alloc ?_ _) | (refine HasF3.drewN ?_ _) | (refine HasF4.drewN ?_ _))), ⟨⟨by first | simp | go_simp, by first | simp | go_simp, by first | simp | go_simp, by first | simp | go_simp⟩, fun o => by simp [*]⟩, by (repeat (first | exact Below.refl _ _ | (refine below_drewN ?_ _) | (refine Below.drew ?_) | (refine Below.setCell ?_ (by first | omega | (simp; try omega)) _) | (refine Below.alloc ?_ (by first | omega | (simp; try omega)) _) | (refine Below.trans ?_ (Below.mono (by assumption) (by first | omega | (simp; try omega))))))⟩ ?_
  clear hbel hp0 hp1 hp2 hp3 hp4 c0_0 c0_1 c0_2 c0_3 c1_0 c1_1 c1_2 c1_3 c2_0 c2_1 c2_2 c2_3 c3_0 c3_1 c3_2 c3_3 c4_0 c4_1 c4_2 c4_3 fz0 fz1 fz2 fz3 fz4
  rintro W2n ⟨hp0, hp1, hp2, hp3, hp4, hp5, hbel⟩
  have LW2nhp0 := hp0.lt; have LW2nhp1 := hp1.lt; have LW2nhp2 := hp2.lt; have LW2nhp3 := hp3.lt; have LW2nhp4 := hp4.lt; have LW2nhp5 := hp5.lt; have SW2n := hbel.size
  obtain ⟨⟨c0_0, c0_1, c0_2, c0_3⟩, fz0⟩ := id hp0
  obtain ⟨⟨c1_0, c1_1, c1_2, c1_3⟩, fz1⟩ := id hp1
  obtain ⟨⟨c2_0, c2_1, c2_2, c2_3⟩, fz2⟩ := id hp2
  obtain ⟨⟨c3_0, c3_1, c3_2, c3_3⟩, fz3⟩ := id hp3
  obtain ⟨⟨c4_0, c4_1, c4_2, c4_3⟩, fz4⟩ := id hp4
  obtain ⟨⟨c5_0, c5_1, c5_2, c5_3⟩, fz5⟩ := id hp5
  go_wp2_with fail
  refine (c_spec_l02Near hc hd hs _).mono ?_
  rintro e W3c ⟨⟨ws3, xs3, ys3, zs3, rfl, hv3⟩, hb⟩
  clear c0_0 c0_1 c0_2 c0_3 c1_0 c1_1 c1_2 c1_3 c2_0 c2_1 c2_2 c2_3 c3_0 c3_1 c3_2 c3_3 c4_0 c4_1 c4_2 c4_3 c5_0 c5_1 c5_2 c5_3 fz0 fz1 fz2 fz3 fz4 fz5
  replace hp0 := hp0.below hb
  replace hp1 := hp1.below hb
  replace hp2 := hp2.below hb
  replace hp3 := hp3.below hb
  replace hp4 := hp4.below hb
  replace hp5 := hp5.below hb
  replace hbel := hbel.trans (hb.mono hbel.size)
  clear hb
  have LW3chp0 := hp0.lt; have LW3chp1 := hp1.lt; have LW3chp2 := hp2.lt; have LW3chp3 := hp3.lt; have LW3chp4 := hp4.lt; have LW3chp5 := hp5.lt; have SW3c := hbel.size
  obtain ⟨⟨c0_0, c0_1, c0_2, c0_3⟩, fz0⟩ := id hp0
  obtain ⟨⟨c1_0, c1_1, c1_2, c1_3⟩, fz1⟩ := id hp1
  obtain ⟨⟨c2_0, c2_1, c2_2, c2_3⟩, fz2⟩ := id hp2
  obtain ⟨⟨c3_0, c3_1, c3_2, c3_3⟩, fz3⟩ := id hp3
  obtain ⟨⟨c4_0, c4_1, c4_2, c4_3⟩, fz4⟩ := id hp4
  obtain ⟨⟨c5_0, c5_1, c5_2, c5_3⟩, fz5⟩ := id hp5
  go_upto_region 3 with fail
  refine wp_name (fun wr => HasF4 wr w.heap.size aw ax ay az ∧ HasF4 wr (w.heap.size + 1) cw cx cy cz ∧ HasF4 wr (w.heap.size + 2) dw dx dy dz ∧ HasF4 wr (w.heap.size + 3) ew ex ey ez ∧ HasF4 wr (w.heap.size + 4) 0 0 0 0 ∧ HasF4 wr W1c.heap.size ws1 xs1 ys1 zs1 ∧ HasF4 wr W3c.heap.size ws3 xs3 ys3 zs3 ∧ Below w.heap.size w wr) ⟨by (repeat (first | assumption | (refine HasF3.set ?_ _ _ (by first | omega | (simp; try omega))) | (refine HasF4.set ?_ _ _ (by first | omega | (simp; try omega))) | (refine HasF3.alloc ?_ _) | (refine HasF4.alloc ?_ _) | (refine HasF3.drewN ?_ _) | (refine HasF4.drewN ?_ _))), by (repeat (first | assumption | (refine HasF3.set ?_ _ _ (by first | omega | (simp; try omega))) | (refine HasF4.set ?_ _ _ (by first | omega | (simp; try omega))) | (refine HasF3.alloc ?_ _) | (refine HasF4.alloc ?_ _) | (refine HasF3.drewN ?_ _) | (refine HasF4.drewN ?_ _))), by (repeat (first | assumption | (refine HasF3.set ?_ _ _ (by first | omega | (simp; try omega))) | (refine HasF4.set ?_ _ _ (by first | omega | (simp; try omega))) | (refine HasF3.alloc ?_ _) | (refine HasF4.alloc ?_ _) | (refine HasF3.drewN ?_ _) | (refine HasF4.drewN ?_ _))), by (repeat (first | assumption | (refine HasF3.set ?_ _ _ (by first | omega | (simp; try omega))) | (refine HasF4.set ?_ _ _ (by first | omega | (simp; try omega))) | (refine HasF3.alloc ?_ _) | (refine HasF4.alloc ?_ _) | (refine HasF3.drewN ?_ _) | (refine HasF4.drewN ?_ _))), by (repeat (first | assumption | (refine HasF3.set ?_ _ _ (by first | omega | (simp; try omega))) | (refine HasF4.set ?_ _ _ (by first | omega | (simp; try omega))) | (refine HasF3.alloc ?_ _) | (refine HasF4.alloc ?_ _) | (refine HasF3.drewN ?_ _) | (refine HasF4.drewN ?_ _))), by (repeat (first | assumption | (refine HasF3.set ?_ _ _ (by first | omega | (simp; try omega))) | (refine HasF4.set ?_ _ _ (by first | omega | (simp; try omega))) | (refine HasF3.alloc ?_ _) | (refine HasF4.alloc ?_ _) | (refine HasF3.drewN ?_ _) | (refine HasF4.drewN ?_ _))), ⟨⟨by first | simp | go_simp, by first | simp | go_simp, by first | simp | go_simp, by first | simp | go_simp⟩, fun o => by simp [*]⟩, by (repeat (first | exact Below.refl _ _ | (refine below_drewN ?_ _) | (refine Below.drew ?_) | (refine Below.setCell ?_ (by first | omega | (simp; try omega)) _) | (refine Below.alloc ?_ (by first | omega | (simp; try omega)) _) | (refine Below.trans ?_ (Below.mono (by assumption) (by first | omega | (simp; try omega))))))⟩ ?_
  clear hbel hp0 hp1 hp2 hp3 hp4 hp5 c0_0 c0_1 c0_2 c0_3 c1_0 c1_1 c1_2 c1_3 c2_0 c2_1 c2_2 c2_3 c3_0 c3_1 c3_2 c3_3 c4_0 c4_1 c4_2 c4_3 c5_0 c5_1 c5_2 c5_3 fz0 fz1 fz2 fz3 fz4 fz5
  rintro W4n ⟨hp0, hp1, hp2, hp3, hp4, hp5, hp6, hbel⟩
  have LW4nhp0 := hp0.lt; have LW4nhp1 := hp1.lt; have LW4nhp2 := hp2.lt; have LW4nhp3 := hp3.lt; have LW4nhp4 := hp4.lt; have LW4nhp5 := hp5.lt; have LW4nhp6 := hp6.lt; have SW4n := hbel.size
  obtain ⟨⟨c0_0, c0_1, c0_2, c0_3⟩, fz0⟩ := id hp0
  obtain ⟨⟨c1_0, c1_1, c1_2, c1_3⟩, fz1⟩ := id hp1
  obtain ⟨⟨c2_0, c2_1, c2_2, c2_3⟩, fz2⟩ := id hp2
  obtain ⟨⟨c3_0, c3_1, c3_2, c3_3⟩, fz3⟩ := id hp3
  obtain ⟨⟨c4_0, c4_1, c4_2, c4_3⟩, fz4⟩ := id hp4
  obtain ⟨⟨c5_0, c5_1, c5_2, c5_3⟩, fz5⟩ := id hp5
  obtain ⟨⟨c6_0, c6_1, c6_2, c6_3⟩, fz6⟩ := id hp6
  go_wp2_with fail
  refine (c_spec_l02Near hd he hs _).mono ?_
  rintro e W5c ⟨⟨ws5, xs5, ys5, zs5, rfl, hv5⟩, hb⟩
  clear c0_0 c0_1 c0_2 c0_3 c1_0 c1_1 c1_2 c1_3 c2_0 c2_1 c2_2 c2_3 c3_0 c3_1 c3_2 c3_3 c4_0 c4_1 c4_2 c4_3 c5_0 c5_1 c5_2 c5_3 c6_0 c6_1 c6_2 c6_3 fz0 fz1 fz2 fz3 fz4 fz5 fz6
  replace hp0 := hp0.below hb
  replace hp1 := hp1.below hb
  replace hp2 := hp2.below hb
  replace hp3 := hp3.below hb
  replace hp4 := hp4.below hb
  replace hp5 := hp5.below hb
  replace hp6 := hp6.below hb
  replace hbel := hbel.trans (hb.mono hbel.size)
  clear hb
  have LW5chp0 := hp0.lt; have LW5chp1 := hp1.lt; have LW5chp2 := hp2.lt; have LW5chp3 := hp3.lt; have LW5chp4 := hp4.lt; have LW5chp5 := hp5.lt; have LW5chp6 := hp6.lt; have SW5c := hbel.size
  obtain ⟨⟨c0_0, c0_1, c0_2, c0_3⟩, fz0⟩ := id hp0
  obtain ⟨⟨c1_0, c1_1, c1_2, c1_3⟩, fz1⟩ := id hp1
  obtain ⟨⟨c2_0, c2_1, c2_2, c2_3⟩, fz2⟩ := id hp2
  obtain ⟨⟨c3_0, c3_1, c3_2, c3_3⟩, fz3⟩ := id hp3
  obtain ⟨⟨c4_0, c4_1, c4_2, c4_3⟩, fz4⟩ := id hp4
  obtain ⟨⟨c5_0, c5_1, c5_2, c5_3⟩, fz5⟩ := id hp5
  obtain ⟨⟨c6_0, c6_1, c6_2, c6_3⟩, fz6⟩ := id hp6
  go_upto_region 4 with fail
  refine wp_name (fun wr => HasF4 wr w.heap.size aw ax ay az ∧ HasF4 wr (w.heap.size + 1) cw cx cy cz ∧ HasF4 wr (w.heap.size + 2) dw dx dy dz ∧ HasF4 wr (w.heap.size + 3) ew ex ey ez ∧ HasF4 wr (w.heap.size + 4) 0 0 0 0 ∧ HasF4 wr W1c.heap.size ws1 xs1 ys1 zs1 ∧ HasF4 wr W3c.heap.size ws3 xs3 ys3 zs3 ∧ HasF4 wr W5c.heap.size ws5 xs5 ys5 zs5 ∧ Below w.heap.size w wr) ⟨by (repeat (first | assumption | (refine HasF3.set ?_ _ _ (by first | omega | (simp; try omega))) | (refine HasF4.set ?_ _ _ (by first | omega | (simp; try omega))) | (refine HasF3.alloc ?_ _) | (refine HasF4.alloc ?_ _) | (refine HasF3.drewN ?_ _) | (refine HasF4.drewN ?_ _))), by (repeat (first | assumption | (refine HasF3.set ?_ _ _ (by first | omega | (simp; try omega))) | (refine HasF4.set ?_ _ _ (by first | omega | (simp; try omega))) | (refine HasF3.alloc ?_ _) | (refine HasF4.alloc ?_ _) | (refine HasF3.drewN ?_ _) | (refine HasF4.drewN ?_ _))), by (repeat (first | assumption | (refine HasF3.set ?_ _ _ (by first | omega | (simp; try omega))) | (refine HasF4.set ?_ _ _ (by first | omega | (simp; try omega))) | (refine HasF3.alloc ?_ _) | (refine HasF4.alloc ?_ _) | (refine HasF3.drewN ?_ _) | (refine HasF4.drewN ?_ _))), by (repeat (first | assumption | (refine HasF3.set ?_ _ _ (by first | omega | (simp; try omega))) | (refine HasF4.set ?_ _ _ (by first | omega | (simp; try omega))) | (refine HasF3.alloc ?_ _) | (refine HasF4.alloc ?_ _) | (refine HasF3.drewN ?_ _) | (refine HasF4.drewN ?_ _))), by (repeat (first | assumption | (refine HasF3.set ?_ _ _ (by first | omega | (simp; try omega))) | (refine HasF4.set ?_ _ _ (by first | omega | (simp; try omega))) | (refine HasF3.alloc ?_ _) | (refine HasF4.alloc ?_ _) | (refine HasF3.drewN ?_ _) | (refine HasF4.drewN ?_ _))), by (repeat (first | assumption | (refine HasF3.set ?_ _ _ (by first | omega | (simp; try omega))) | (refine HasF4.set ?_ _ _ (by first | omega | (simp; try omega))) | (refine HasF3.alloc ?_ _) | (refine HasF4.alloc ?_ _) | (refine HasF3.drewN ?_ _) | (refine HasF4.drewN ?_ _))), by (repeat (first | assumption | (refine HasF3.set ?_ _ _ (by first | omega | (simp; try omega))) | (refine HasF4.set ?_ _ _ (by first | omega | (simp; try omega))) | (refine HasF3.alloc ?_ _) | (refine HasF4.alloc ?_ _) | (refine HasF3.drewN ?_ _) | (refine HasF4.drewN ?_ _))), ⟨⟨by first | simp | go_simp, by first | simp | go_simp, by first | simp | go_simp, by first | simp | go_simp⟩, fun o => by simp [*]⟩, by (repeat (first | exact Below.refl _ _ | (refine below_drewN ?_ _) | (refine Below.drew ?_) | (refine Below.setCell ?_ (by first | omega | (simp; try omega)) _) | (refine Below.alloc ?_ (by first | omega | (simp; try omega)) _) | (refine Below.trans ?_ (Below.mono (by assumption) (by first | omega | (simp; try omega))))))⟩ ?_
  clear hbel hp0 hp1 hp2 hp3 hp4 hp5 hp6 c0_0 c0_1 c0_2 c0_3 c1_0 c1_1 c1_2 c1_3 c2_0 c2_1 c2_2 c2_3 c3_0 c3_1 c3_2 c3_3 c4_0 c4_1 c4_2 c4_3 c5_0 c5_1 c5_2 c5_3 c6_0 c6_1 c6_2 c6_3 fz0 fz1 fz2 fz3 fz4 fz5 fz6
  rintro W6n ⟨hp0, hp1, hp2, hp3, hp4, hp5, hp6, hp7, hbel⟩
  have LW6nhp0 := hp0.lt; have LW6nhp1 := hp1.lt; have LW6nhp2 := hp2.lt; have LW6nhp3 := hp3.lt; have LW6nhp4 := hp4.lt; have LW6nhp5 := hp5.lt; have LW6nhp6 := hp6.lt; have LW6nhp7 := hp7.lt; have SW6n := hbel.size
  refine wp_region_drawn [(26, isV (turn ws1 xs1 ys1 zs1)), (27, isV (turn ws3 xs3 ys3 zs3)), (28, isV (.float .f32 s)), (29, isTurn (nearC (nearC (Ca) (Cc) (Cs)) (nearC (Cc) (Cd) (Cs)) (Cs))), (30, isV (turn ws3 xs3 ys3 zs3)), (31, isV (turn ws5 xs5 ys5 zs5)), (32, isV (.float .f32 s)), (33, isTurn (nearC (nearC (Cc) (Cd) (Cs)) (nearC (Cd) (Ce) (Cs)) (Cs))), (34, isV (.float .f32 s)), (35, isTurn (nearC (nearC (nearC (Ca) (Cc) (Cs)) (nearC (Cc) (Cd) (Cs)) (Cs)) (nearC (nearC (Cc) (Cd) (Cs)) (nearC (Cd) (Ce) (Cs)) (Cs)) (Cs)))]
    (fun wr => HasF4 wr w.heap.size aw ax ay az ∧ HasF4 wr (w.heap.size + 1) cw cx cy cz ∧ HasF4 wr (w.heap.size + 2) dw dx dy dz ∧ HasF4 wr (w.heap.size + 3) ew ex ey ez ∧ HasF4 wr (w.heap.size + 4) 0 0 0 0 ∧ HasF4 wr W1c.heap.size ws1 xs1 ys1 zs1 ∧ HasF4 wr W3c.heap.size ws3 xs3 ys3 zs3 ∧ HasF4 wr W5c.heap.size ws5 xs5 ys5 zs5 ∧ Below W6n.heap.size W6n wr)
    (by kernel_rfl) (by kernel_rfl) (by kernel_rfl) (by kernel_rfl) (Nat.le_of_ble_eq_true (by kernel_rfl)) (by kernel_rfl) ?_ (fun _ _ hb h => ⟨h.1.below hb, h.2.1.below hb, h.2.2.1.below hb, h.2.2.2.1.below hb, h.2.2.2.2.1.below hb, h.2.2.2.2.2.1.below hb, h.2.2.2.2.2.2.1.below hb, h.2.2.2.2.2.2.2.1.below hb, h.2.2.2.2.2.2.2.2.trans (hb.mono h.2.2.2.2.2.2.2.2.size)⟩) ⟨hp0, hp1, hp2, hp3, hp4, hp5, hp6, hp7, (Below.refl _ _).drew⟩ ?_ ?_
  · intro p hp
    simp only [List.mem_cons, List.not_mem_nil, or_false] at hp
    rcases hp with rfl | rfl | rfl | rfl | rfl | rfl | rfl | rfl | rfl | rfl <;> first | exact mono_isV _ | exact mono_isVec _ | exact mono_isTurn _ | exact mono_isFlt _ _ | exact mono_isOwn3 _ | exact mono_isOwn4 _
  · intro i o hi ho f w1 hI hdep
    simp only [List.map_cons, List.map_nil, mix, List.contains_cons, List.contains_nil, Nat.reduceBEq, Bool.or_true, Bool.or_false, Bool.false_eq_true, if_true, if_false, Nat.reduceAdd, Nat.zero_add]
    have hcase : i = 0 ∨ i = 1 ∨ i = 2 ∨ i = 3 ∨ i = 4 ∨ i = 5 ∨ i = 6 ∨ i = 7 ∨ i = 8 ∨ i = 9 := by simp at hi; omega
    obtain ⟨⟨⟨c0_0, c0_1, c0_2, c0_3⟩, fz0⟩, ⟨⟨c1_0, c1_1, c1_2, c1_3⟩, fz1⟩, ⟨⟨c2_0, c2_1, c2_2, c2_3⟩, fz2⟩, ⟨⟨c3_0, c3_1, c3_2, c3_3⟩, fz3⟩, ⟨⟨c4_0, c4_1, c4_2, c4_3⟩, fz4⟩, ⟨⟨c5_0, c5_1, c5_2, c5_3⟩, fz5⟩, ⟨⟨c6_0, c6_1, c6_2, c6_3⟩, fz6⟩, ⟨⟨c7_0, c7_1, c7_2, c7_3⟩, fz7⟩, hb1⟩ := hI
    have hsz := hb1.size
    rcases hcase with rfl | rfl | rfl | rfl | rfl | rfl | rfl | rfl | rfl | rfl
    · obtain rfl := Option.some.inj ho
      clear hdep ho hi
      generalize f 26 = v26 at *; generalize f 27 = v27 at *; generalize f 28 = v28 at *; generalize f 29 = v29 at *; generalize f 30 = v30 at *; generalize f 31 = v31 at *; generalize f 32 = v32 at *; generalize f 33 = v33 at *; generalize f 34 = v34 at *; generalize f 35 = v35 at *
      refine wpOp_step rfl (fun K hK => ?_)
      go_simp
      exact hK _ _ ⟨_, rfl, (fun p hp => by cases hp; rfl), Below.refl _ _⟩
    · obtain rfl := Option.some.inj ho
      clear hdep ho hi
      generalize f 26 = v26 at *; generalize f 27 = v27 at *; generalize f 28 = v28 at *; generalize f 29 = v29 at *; generalize f 30 = v30 at *; generalize f 31 = v31 at *; generalize f 32 = v32 at *; generalize f 33 = v33 at *; generalize f 34 = v34 at *; generalize f 35 = v35 at *
      refine wpOp_step rfl (fun K hK => ?_)
      go_simp
      exact hK _ _ ⟨_, rfl, (fun p hp => by cases hp; rfl), Below.refl _ _⟩
    · obtain rfl := Option.some.inj ho
      clear hdep ho hi
      generalize f 26 = v26 at *; generalize f 27 = v27 at *; generalize f 28 = v28 at *; generalize f 29 = v29 at *; generalize f 30 = v30 at *; generalize f 31 = v31 at *; generalize f 32 = v32 at *; generalize f 33 = v33 at *; generalize f 34 = v34 at *; generalize f 35 = v35 at *
      refine wpOp_step rfl (fun K hK => ?_)
      go_simp
      exact hK _ _ ⟨_, rfl, (fun p hp => by cases hp; rfl), Below.refl _ _⟩
    · obtain rfl := Option.some.inj ho
      have e0 : f 26 = (turn ws1 xs1 ys1 zs1) := hdep ⟨0, .data⟩ (by simp) rfl
      have e1 : f 27 = (turn ws3 xs3 ys3 zs3) := hdep ⟨1, .data⟩ (by simp) rfl
      have e2 : f 28 = (.float .f32 s) := hdep ⟨2, .data⟩ (by simp) rfl
      clear hdep ho hi
      generalize f 26 = v26 at *; generalize f 27 = v27 at *; generalize f 28 = v28 at *; generalize f 29 = v29 at *; generalize f 30 = v30 at *; generalize f 31 = v31 at *; generalize f 32 = v32 at *; generalize f 33 = v33 at *; generalize f 34 = v34 at *; generalize f 35 = v35 at *
      subst e0 e1 e2
      refine wpOp_step rfl (fun K hK => ?_)
      go_simp
      refine (c_spec_l02Near hv1 hv3 hs _).mono ?_
      rintro e w' ⟨⟨y0, y1, y2, y3, rfl, hv⟩, hb⟩
      exact hK _ _ ⟨_, rfl, (fun p hp => by cases hp; exact ⟨_, _, _, _, rfl, hv⟩), hb⟩
    · obtain rfl := Option.some.inj ho
      clear hdep ho hi
      generalize f 26 = v26 at *; generalize f 27 = v27 at *; generalize f 28 = v28 at *; generalize f 29 = v29 at *; generalize f 30 = v30 at *; generalize f 31 = v31 at *; generalize f 32 = v32 at *; generalize f 33 = v33 at *; generalize f 34 = v34 at *; generalize f 35 = v35 at *
      refine wpOp_step rfl (fun K hK => ?_)
      go_simp
      exact hK _ _ ⟨_, rfl, (fun p hp => by cases hp; rfl), Below.refl _ _⟩
    · obtain rfl := Option.some.inj ho
      clear hdep ho hi
      generalize f 26 = v26 at *; generalize f 27 = v27 at *; generalize f 28 = v28 at *; generalize f 29 = v29 at *; generalize f 30 = v30 at *; generalize f 31 = v31 at *; generalize f 32 = v32 at *; generalize f 33 = v33 at *; generalize f 34 = v34 at *; generalize f 35 = v35 at *
      refine wpOp_step rfl (fun K hK => ?_)
      go_simp
      exact hK _ _ ⟨_, rfl, (fun p hp => by cases hp; rfl), Below.refl _ _⟩
    · obtain rfl := Option.some.inj ho
      clear hdep ho hi
      generalize f 26 = v26 at *; generalize f 27 = v27 at *; generalize f 28 = v28 at *; generalize f 29 = v29 at *; generalize f 30 = v30 at *; generalize f 31 = v31 at *; generalize f 32 = v32 at *; generalize f 33 = v33 at *; generalize f 34 = v34 at *; generalize f 35 = v35 at *
      refine wpOp_step rfl (fun K hK => ?_)
      go_simp
      exact hK _ _ ⟨_, rfl, (fun p hp => by cases hp; rfl), Below.refl _ _⟩
    · obtain rfl := Option.some.inj ho
      have e4 : f 30 = (turn ws3 xs3 ys3 zs3) := hdep ⟨4, .data⟩ (by simp) rfl
      have e5 : f 31 = (turn ws5 xs5 ys5 zs5) := hdep ⟨5, .data⟩ (by simp) rfl
      have e6 : f 32 = (.float .f32 s) := hdep ⟨6, .data⟩ (by simp) rfl
      clear hdep ho hi
      generalize f 26 = v26 at *; generalize f 27 = v27 at *; generalize f 28 = v28 at *; generalize f 29 = v29 at *; generalize f 30 = v30 at *; generalize f 31 = v31 at *; generalize f 32 = v32 at *; generalize f 33 = v33 at *; generalize f 34 = v34 at *; generalize f 35 = v35 at *
      subst e4 e5 e6
      refine wpOp_step rfl (fun K hK => ?_)
      go_simp
      refine (c_spec_l02Near hv3 hv5 hs _).mono ?_
      rintro e w' ⟨⟨y0, y1, y2, y3, rfl, hv⟩, hb⟩
      exact hK _ _ ⟨_, rfl, (fun p hp => by cases hp; exact ⟨_, _, _, _, rfl, hv⟩), hb⟩
    · obtain rfl := Option.some.inj ho
      clear hdep ho hi
      generalize f 26 = v26 at *; generalize f 27 = v27 at *; generalize f 28 = v28 at *; generalize f 29 = v29 at *; generalize f 30 = v30 at *; generalize f 31 = v31 at *; generalize f 32 = v32 at *; generalize f 33 = v33 at *; generalize f 34 = v34 at *; generalize f 35 = v35 at *
      refine wpOp_step rfl (fun K hK => ?_)
      go_simp
      exact hK _ _ ⟨_, rfl, (fun p hp => by cases hp; rfl), Below.refl _ _⟩
    · obtain rfl := Option.some.inj ho
      obtain ⟨w3, x3, y3, z3, e3, hv3⟩ : isTurn _ (f 29) w1 := hdep ⟨3, .data⟩ (by simp) rfl
      obtain ⟨w7, x7, y7, z7, e7, hv7⟩ : isTurn _ (f 33) w1 := hdep ⟨7, .data⟩ (by simp) rfl
      have e8 : f 34 = (.float .f32 s) := hdep ⟨8, .data⟩ (by simp) rfl
      clear hdep ho hi
      generalize f 26 = v26 at *; generalize f 27 = v27 at *; generalize f 28 = v28 at *; generalize f 29 = v29 at *; generalize f 30 = v30 at *; generalize f 31 = v31 at *; generalize f 32 = v32 at *; generalize f 33 = v33 at *; generalize f 34 = v34 at *; generalize f 35 = v35 at *
      subst e3 e7 e8
      refine wpOp_step rfl (fun K hK => ?_)
      go_simp
      refine (c_spec_l02Near hv3 hv7 hs _).mono ?_
      rintro e w' ⟨⟨y0, y1, y2, y3, rfl, hv⟩, hb⟩
      exact hK _ _ ⟨_, rfl, (fun p hp => by cases hp; exact ⟨_, _, _, _, rfl, hv⟩), hb⟩
  · intro f w1 hI hF
    simp only [List.map_cons, List.map_nil, mix, List.contains_cons, List.contains_nil, Nat.reduceBEq, Bool.or_true, Bool.or_false, Bool.false_eq_true, if_true, if_false, Nat.reduceAdd, Nat.zero_add]
    obtain ⟨hp0, hp1, hp2, hp3, hp4, hp5, hp6, hp7, hb1⟩ := hI
    have hsz := hb1.size
    replace hbel := hbel.trans (hb1.mono hbel.size)
    obtain ⟨w7_35, x7_35, y7_35, z7_35, e9, hv7_35⟩ : isTurn _ (f 35) w1 := hF 9 (by simp)
    clear hF
    generalize f 26 = v26 at *; generalize f 27 = v27 at *; generalize f 28 = v28 at *; generalize f 29 = v29 at *; generalize f 30 = v30 at *; generalize f 31 = v31 at *; generalize f 32 = v32 at *; generalize f 33 = v33 at *; generalize f 34 = v34 at *; generalize f 35 = v35 at *
    subst e9
    have Lw7hp0 := hp0.lt; have Lw7hp1 := hp1.lt; have Lw7hp2 := hp2.lt; have Lw7hp3 := hp3.lt; have Lw7hp4 := hp4.lt; have Lw7hp5 := hp5.lt; have Lw7hp6 := hp6.lt; have Lw7hp7 := hp7.lt
    obtain ⟨⟨c0_0, c0_1, c0_2, c0_3⟩, fz0⟩ := id hp0
    obtain ⟨⟨c1_0, c1_1, c1_2, c1_3⟩, fz1⟩ := id hp1
    obtain ⟨⟨c2_0, c2_1, c2_2, c2_3⟩, fz2⟩ := id hp2
    obtain ⟨⟨c3_0, c3_1, c3_2, c3_3⟩, fz3⟩ := id hp3
    obtain ⟨⟨c4_0, c4_1, c4_2, c4_3⟩, fz4⟩ := id hp4
    obtain ⟨⟨c5_0, c5_1, c5_2, c5_3⟩, fz5⟩ := id hp5
    obtain ⟨⟨c6_0, c6_1, c6_2, c6_3⟩, fz6⟩ := id hp6
    obtain ⟨⟨c7_0, c7_1, c7_2, c7_3⟩, fz7⟩ := id hp7
    change wpAny _ _ _ _ (0 + 1) _ _ _
    refine wpAny_all (rs := [10]) (by kernel_rfl) (by simp) ?_
    intro i hi
    obtain rfl : i = 10 := by simpa using hi
    clear hi
    refine wpOp_step rfl (fun K hK => ?_)
    go_simp
    refine hK _ _ (wpAny_done (by kernel_rfl) ?_ _)
    clear hK K
    go_wp2_with fail
    apply ret_turn; exact hv7_35.w; exact hv7_35.x; exact hv7_35.y; exact hv7_35.z; simp [results, Try.results9, go_sem, *]; rfl; (repeat (first | exact Below.refl _ _ | (refine below_drewN ?_ _) | (refine Below.drew ?_) | (refine Below.setCell ?_ (by first | omega | (simp; try omega)) _) | (refine Below.alloc ?_ (by first | omega | (simp; try omega)) _) | (refine Below.trans ?_ (Below.mono (by assumption) (by first | omega | (simp; try omega))))))

end Go.Proofs.Ytpfijbgkhekjfaa
