/-
  The turn from one direction to another. No condition.
-/
import Derived.Test.YteefiihliepbgacVt
set_option linter.unusedVariables false
namespace Go.Proofs.Yteefiihliepbgac
open Go.RowKit Go.Proofs.Yteefiihliepbgac.Fl

def gtB (x y : Option Nat) : Bool := ford .f32 x y == some .gt
def leB (x y : Option Nat) : Bool := ford .f32 x y == some .lt || ford .f32 x y == some .eq
def exC : V3 := ⟨some 1065353216, some 0, some 0⟩
def eyC : V3 := ⟨some 0, some 1065353216, some 0⟩
def tbP (u v : V3) : Option Nat := M (longC u) (longC v)
def tbW (u v : V3) : Option Nat := A (tbP u v) (innerC u v)
def tbC (u v : V3) : V4 := match gtB (tbW u v) (D (tbP u v) (some 1149239296)) with
  | true => mendC (turnC (tbW u v) (crossC u v))
  | false => match leB (longC (crossC u exC)) (D (longC u) (some 1149239296)) with
    | true => mendC (turnC (some 0) (crossC u eyC))
    | false => mendC (turnC (some 0) (crossC u exC))

set_option maxHeartbeats 4000000 in
set_option maxRecDepth 20000 in
theorem c_impl_TurnBetween {ax ay az cx cy cz : Nat} {Ca : V3} {Cc : V3} (ha : Fv3 ax ay az Ca) (hc : Fv3 cx cy cz Cc) (w : World) : Calls Try.prog 24 #[vec ax ay az, vec cx cy cz] w (RetT (tbC Ca Cc) w) := by
  cases q1 : gtB (tbW Ca Cc) (D (tbP Ca Cc) (some 1149239296)) with
  | false =>
    cases q2 : leB (longC (crossC Ca exC)) (D (longC Ca) (some 1149239296)) with
    | false =>
      have hcls : tbC Ca Cc = mendC (turnC (some 0) (crossC Ca exC)) := by unfold tbC; simp [q1, q2]
      rw [hcls]; clear hcls
      go_enter Try.func24, Try.ntmps24
      go_upto_region 1 with fail
      refine wp_name (fun wr => HasF3 wr w.heap.size ax ay az ∧ HasF3 wr (w.heap.size + 1) cx cy cz ∧ HasF4 wr (w.heap.size + 2) 0 0 0 0 ∧ Below w.heap.size w wr) ⟨⟨⟨by go_simp, by go_simp, by go_simp⟩, fun o => by go_simp⟩, ⟨⟨by go_simp, by go_simp, by go_simp⟩, fun o => by go_simp⟩, ⟨⟨by go_simp, by go_simp, by go_simp, by go_simp⟩, fun o => by go_simp⟩, by (repeat (first | exact Below.refl _ _ | (refine below_drewN ?_ _) | (refine Below.drew ?_) | (refine Below.setCell ?_ (by first | omega | (simp; try omega)) _) | (refine Below.alloc ?_ (by first | omega | (simp; try omega)) _) | (refine Below.trans ?_ (Below.mono (by assumption) (by first | omega | (simp; try omega))))))⟩ ?_
      rintro W1 ⟨hp0, hp1, hp2, hbel⟩
      have LW1hp0 := hp0.lt; have LW1hp1 := hp1.lt; have LW1hp2 := hp2.lt; have SW1 := hbel.size
      refine wp_region_drawn [(8, isV (vec ax ay az)), (9, isFlt .f32 (longC (Ca))), (10, isV (vec cx cy cz)), (11, isFlt .f32 (longC (Cc))), (12, isFlt .f32 (M (longC (Ca)) (longC (Cc))))]
        (fun wr => HasF3 wr w.heap.size ax ay az ∧ HasF3 wr (w.heap.size + 1) cx cy cz ∧ HasF4 wr (w.heap.size + 2) 0 0 0 0 ∧ Below W1.heap.size W1 wr)
        (by kernel_rfl) (by kernel_rfl) (by kernel_rfl) (by kernel_rfl) (Nat.le_of_ble_eq_true (by kernel_rfl)) (by kernel_rfl) ?_ (fun _ _ hb h => ⟨h.1.below hb, h.2.1.below hb, h.2.2.1.below hb, h.2.2.2.trans (hb.mono h.2.2.2.size)⟩) ⟨hp0, hp1, hp2, (Below.refl _ _).drew⟩ ?_ ?_
      · intro p hp
        simp only [List.mem_cons, List.not_mem_nil, or_false] at hp
        rcases hp with rfl | rfl | rfl | rfl | rfl <;> first | exact mono_isV _ | exact mono_isVec _ | exact mono_isTurn _ | exact mono_isFlt _ _ | exact mono_isOwn3 _ | exact mono_isOwn4 _
      · intro i o hi ho f w1 hI hdep
        simp only [List.map_cons, List.map_nil, mix, List.contains_cons, List.contains_nil, Nat.reduceBEq, Bool.or_true, Bool.or_false, Bool.false_eq_true, if_true, if_false, Nat.reduceAdd, Nat.zero_add]
        have hcase : i = 0 ∨ i = 1 ∨ i = 2 ∨ i = 3 ∨ i = 4 := by simp at hi; omega
        obtain ⟨⟨⟨c0_0, c0_1, c0_2⟩, fz0⟩, ⟨⟨c1_0, c1_1, c1_2⟩, fz1⟩, ⟨⟨c2_0, c2_1, c2_2, c2_3⟩, fz2⟩, hb1⟩ := hI
        have hsz := hb1.size
        rcases hcase with rfl | rfl | rfl | rfl | rfl
        · obtain rfl := Option.some.inj ho
          clear hdep ho hi
          generalize f 8 = v8 at *; generalize f 9 = v9 at *; generalize f 10 = v10 at *; generalize f 11 = v11 at *; generalize f 12 = v12 at *
          refine wpOp_step rfl (fun K hK => ?_)
          go_simp
          exact hK _ _ ⟨_, rfl, (fun p hp => by cases hp; rfl), Below.refl _ _⟩
        · obtain rfl := Option.some.inj ho
          have e0 : f 8 = (vec ax ay az) := hdep ⟨0, .data⟩ (by simp) rfl
          clear hdep ho hi
          generalize f 8 = v8 at *; generalize f 9 = v9 at *; generalize f 10 = v10 at *; generalize f 11 = v11 at *; generalize f 12 = v12 at *
          subst e0
          refine wpOp_step rfl (fun K hK => ?_)
          go_simp
          refine (c_impl_LongOf ha _).mono ?_
          rintro e w' ⟨⟨y0, rfl, hv⟩, hb⟩
          exact hK _ _ ⟨_, rfl, (fun p hp => by cases hp; exact ⟨_, rfl, hv⟩), hb⟩
        · obtain rfl := Option.some.inj ho
          clear hdep ho hi
          generalize f 8 = v8 at *; generalize f 9 = v9 at *; generalize f 10 = v10 at *; generalize f 11 = v11 at *; generalize f 12 = v12 at *
          refine wpOp_step rfl (fun K hK => ?_)
          go_simp
          exact hK _ _ ⟨_, rfl, (fun p hp => by cases hp; rfl), Below.refl _ _⟩
        · obtain rfl := Option.some.inj ho
          have e2 : f 10 = (vec cx cy cz) := hdep ⟨2, .data⟩ (by simp) rfl
          clear hdep ho hi
          generalize f 8 = v8 at *; generalize f 9 = v9 at *; generalize f 10 = v10 at *; generalize f 11 = v11 at *; generalize f 12 = v12 at *
          subst e2
          refine wpOp_step rfl (fun K hK => ?_)
          go_simp
          refine (c_impl_LongOf hc _).mono ?_
          rintro e w' ⟨⟨y0, rfl, hv⟩, hb⟩
          exact hK _ _ ⟨_, rfl, (fun p hp => by cases hp; exact ⟨_, rfl, hv⟩), hb⟩
        · obtain rfl := Option.some.inj ho
          obtain ⟨r1, e1, hv1⟩ : isFlt _ _ (f 9) w1 := hdep ⟨1, .data⟩ (by simp) rfl
          obtain ⟨r3, e3, hv3⟩ : isFlt _ _ (f 11) w1 := hdep ⟨3, .data⟩ (by simp) rfl
          clear hdep ho hi
          generalize f 8 = v8 at *; generalize f 9 = v9 at *; generalize f 10 = v10 at *; generalize f 11 = v11 at *; generalize f 12 = v12 at *
          subst e1 e3
          refine wpOp_step rfl (fun K hK => ?_)
          go_simp
          (with_reducible apply upon_float_bin); exact rfl; exact hv1; exact hv3; intro r n hr
          exact hK _ _ ⟨_, rfl, (fun p hp => by cases hp; exact ⟨_, rfl, hr⟩), below_drewN (Below.refl _ _) _⟩
      · intro f w1 hI hF
        simp only [List.map_cons, List.map_nil, mix, List.contains_cons, List.contains_nil, Nat.reduceBEq, Bool.or_true, Bool.or_false, Bool.false_eq_true, if_true, if_false, Nat.reduceAdd, Nat.zero_add]
        obtain ⟨hp0, hp1, hp2, hb1⟩ := hI
        have hsz := hb1.size
        replace hbel := hbel.trans (hb1.mono hbel.size)
        obtain ⟨r1_12, e4, hv1_12⟩ : isFlt _ _ (f 12) w1 := hF 4 (by simp)
        clear hF
        generalize f 8 = v8 at *; generalize f 9 = v9 at *; generalize f 10 = v10 at *; generalize f 11 = v11 at *; generalize f 12 = v12 at *
        subst e4
        have Lw1hp0 := hp0.lt; have Lw1hp1 := hp1.lt; have Lw1hp2 := hp2.lt
        obtain ⟨⟨c0_0, c0_1, c0_2⟩, fz0⟩ := id hp0
        obtain ⟨⟨c1_0, c1_1, c1_2⟩, fz1⟩ := id hp1
        obtain ⟨⟨c2_0, c2_1, c2_2, c2_3⟩, fz2⟩ := id hp2
        change wpAny _ _ _ _ (0 + 1) _ _ _
        refine wpAny_all (rs := [5]) (by kernel_rfl) (by simp) ?_
        intro i hi
        obtain rfl : i = 5 := by simpa using hi
        clear hi
        refine wpOp_step rfl (fun K hK => ?_)
        go_simp
        refine hK _ _ (wpAny_done (by kernel_rfl) ?_ _)
        clear hK K
        go_upto_region 2 with fail
        refine wp_name (fun wr => HasF3 wr w.heap.size ax ay az ∧ HasF3 wr (w.heap.size + 1) cx cy cz ∧ HasF4 wr (w.heap.size + 2) 0 0 0 0 ∧ Below w.heap.size w wr) ⟨by (repeat (first | assumption | (refine HasF3.set ?_ _ _ (by first | omega | (simp; try omega))) | (refine HasF4.set ?_ _ _ (by first | omega | (simp; try omega))) | (refine HasF3.alloc ?_ _) | (refine HasF4.alloc ?_ _) | (refine HasF3.drewN ?_ _) | (refine HasF4.drewN ?_ _))), by (repeat (first | assumption | (refine HasF3.set ?_ _ _ (by first | omega | (simp; try omega))) | (refine HasF4.set ?_ _ _ (by first | omega | (simp; try omega))) | (refine HasF3.alloc ?_ _) | (refine HasF4.alloc ?_ _) | (refine HasF3.drewN ?_ _) | (refine HasF4.drewN ?_ _))), by (repeat (first | assumption | (refine HasF3.set ?_ _ _ (by first | omega | (simp; try omega))) | (refine HasF4.set ?_ _ _ (by first | omega | (simp; try omega))) | (refine HasF3.alloc ?_ _) | (refine HasF4.alloc ?_ _) | (refine HasF3.drewN ?_ _) | (refine HasF4.drewN ?_ _))), by (repeat (first | exact Below.refl _ _ | (refine below_drewN ?_ _) | (refine Below.drew ?_) | (refine Below.setCell ?_ (by first | omega | (simp; try omega)) _) | (refine Below.alloc ?_ (by first | omega | (simp; try omega)) _) | (refine Below.trans ?_ (Below.mono (by assumption) (by first | omega | (simp; try omega))))))⟩ ?_
        clear hbel hb1 hsz hp0 hp1 hp2 c0_0 c0_1 c0_2 c1_0 c1_1 c1_2 c2_0 c2_1 c2_2 c2_3 fz0 fz1 fz2
        rintro W2n ⟨hp0, hp1, hp2, hbel⟩
        have LW2nhp0 := hp0.lt; have LW2nhp1 := hp1.lt; have LW2nhp2 := hp2.lt; have SW2n := hbel.size
        obtain ⟨⟨c0_0, c0_1, c0_2⟩, fz0⟩ := id hp0
        obtain ⟨⟨c1_0, c1_1, c1_2⟩, fz1⟩ := id hp1
        obtain ⟨⟨c2_0, c2_1, c2_2, c2_3⟩, fz2⟩ := id hp2
        go_wp2_with fail
        refine (c_impl_InnerOf ha hc _).mono ?_
        rintro e W3c ⟨⟨r3, rfl, hv3⟩, hb⟩
        clear c0_0 c0_1 c0_2 c1_0 c1_1 c1_2 c2_0 c2_1 c2_2 c2_3 fz0 fz1 fz2
        replace hp0 := hp0.below hb
        replace hp1 := hp1.below hb
        replace hp2 := hp2.below hb
        replace hbel := hbel.trans (hb.mono hbel.size)
        clear hb
        have LW3chp0 := hp0.lt; have LW3chp1 := hp1.lt; have LW3chp2 := hp2.lt; have SW3c := hbel.size
        obtain ⟨⟨c0_0, c0_1, c0_2⟩, fz0⟩ := id hp0
        obtain ⟨⟨c1_0, c1_1, c1_2⟩, fz1⟩ := id hp1
        obtain ⟨⟨c2_0, c2_1, c2_2, c2_3⟩, fz2⟩ := id hp2
        go_wp2_with fail
        (with_reducible apply upon_float_bin); exact rfl; exact hv1_12; exact hv3; intro r4 n4 hv4; (try rw [World.drewN_drewN]); simp only [Act.put, List.setIfInBounds_toArray, List.set_cons_zero, List.set_cons_succ]
        go_upto_region 3 with fail
        refine wp_name (fun wr => HasF3 wr w.heap.size ax ay az ∧ HasF3 wr (w.heap.size + 1) cx cy cz ∧ HasF4 wr (w.heap.size + 2) 0 0 0 0 ∧ Below w.heap.size w wr) ⟨by (repeat (first | assumption | (refine HasF3.set ?_ _ _ (by first | omega | (simp; try omega))) | (refine HasF4.set ?_ _ _ (by first | omega | (simp; try omega))) | (refine HasF3.alloc ?_ _) | (refine HasF4.alloc ?_ _) | (refine HasF3.drewN ?_ _) | (refine HasF4.drewN ?_ _))), by (repeat (first | assumption | (refine HasF3.set ?_ _ _ (by first | omega | (simp; try omega))) | (refine HasF4.set ?_ _ _ (by first | omega | (simp; try omega))) | (refine HasF3.alloc ?_ _) | (refine HasF4.alloc ?_ _) | (refine HasF3.drewN ?_ _) | (refine HasF4.drewN ?_ _))), by (repeat (first | assumption | (refine HasF3.set ?_ _ _ (by first | omega | (simp; try omega))) | (refine HasF4.set ?_ _ _ (by first | omega | (simp; try omega))) | (refine HasF3.alloc ?_ _) | (refine HasF4.alloc ?_ _) | (refine HasF3.drewN ?_ _) | (refine HasF4.drewN ?_ _))), by (repeat (first | exact Below.refl _ _ | (refine below_drewN ?_ _) | (refine Below.drew ?_) | (refine Below.setCell ?_ (by first | omega | (simp; try omega)) _) | (refine Below.alloc ?_ (by first | omega | (simp; try omega)) _) | (refine Below.trans ?_ (Below.mono (by assumption) (by first | omega | (simp; try omega))))))⟩ ?_
        clear hbel hp0 hp1 hp2 c0_0 c0_1 c0_2 c1_0 c1_1 c1_2 c2_0 c2_1 c2_2 c2_3 fz0 fz1 fz2
        rintro W5n ⟨hp0, hp1, hp2, hbel⟩
        have LW5nhp0 := hp0.lt; have LW5nhp1 := hp1.lt; have LW5nhp2 := hp2.lt; have SW5n := hbel.size
        obtain ⟨⟨c0_0, c0_1, c0_2⟩, fz0⟩ := id hp0
        obtain ⟨⟨c1_0, c1_1, c1_2⟩, fz1⟩ := id hp1
        obtain ⟨⟨c2_0, c2_1, c2_2, c2_3⟩, fz2⟩ := id hp2
        go_wp2_with fail
        (with_reducible apply upon_float_bin); exact rfl; exact hv1_12; exact (fvc rfl : Fv .f32 1149239296 (some 1149239296)); intro r6 n6 hv6; (try rw [World.drewN_drewN]); simp only [Act.put, List.setIfInBounds_toArray, List.set_cons_zero, List.set_cons_succ]
        have hq7 : (FloatKind.f32.format.order r4 r6 == some .gt) = false := by rw [order_fv hv4 hv6]; exact q1
        go_upto_region 5 with fail
        refine wp_name (fun wr => HasF3 wr w.heap.size ax ay az ∧ HasF3 wr (w.heap.size + 1) cx cy cz ∧ HasF4 wr (w.heap.size + 2) 0 0 0 0 ∧ Below w.heap.size w wr) ⟨by (repeat (first | assumption | (refine HasF3.set ?_ _ _ (by first | omega | (simp; try omega))) | (refine HasF4.set ?_ _ _ (by first | omega | (simp; try omega))) | (refine HasF3.alloc ?_ _) | (refine HasF4.alloc ?_ _) | (refine HasF3.drewN ?_ _) | (refine HasF4.drewN ?_ _))), by (repeat (first | assumption | (refine HasF3.set ?_ _ _ (by first | omega | (simp; try omega))) | (refine HasF4.set ?_ _ _ (by first | omega | (simp; try omega))) | (refine HasF3.alloc ?_ _) | (refine HasF4.alloc ?_ _) | (refine HasF3.drewN ?_ _) | (refine HasF4.drewN ?_ _))), by (repeat (first | assumption | (refine HasF3.set ?_ _ _ (by first | omega | (simp; try omega))) | (refine HasF4.set ?_ _ _ (by first | omega | (simp; try omega))) | (refine HasF3.alloc ?_ _) | (refine HasF4.alloc ?_ _) | (refine HasF3.drewN ?_ _) | (refine HasF4.drewN ?_ _))), by (repeat (first | exact Below.refl _ _ | (refine below_drewN ?_ _) | (refine Below.drew ?_) | (refine Below.setCell ?_ (by first | omega | (simp; try omega)) _) | (refine Below.alloc ?_ (by first | omega | (simp; try omega)) _) | (refine Below.trans ?_ (Below.mono (by assumption) (by first | omega | (simp; try omega))))))⟩ ?_
        clear hbel hp0 hp1 hp2 c0_0 c0_1 c0_2 c1_0 c1_1 c1_2 c2_0 c2_1 c2_2 c2_3 fz0 fz1 fz2
        rintro W8n ⟨hp0, hp1, hp2, hbel⟩
        have LW8nhp0 := hp0.lt; have LW8nhp1 := hp1.lt; have LW8nhp2 := hp2.lt; have SW8n := hbel.size
        obtain ⟨⟨c0_0, c0_1, c0_2⟩, fz0⟩ := id hp0
        obtain ⟨⟨c1_0, c1_1, c1_2⟩, fz1⟩ := id hp1
        obtain ⟨⟨c2_0, c2_1, c2_2, c2_3⟩, fz2⟩ := id hp2
        go_wp2_with fail
        refine (c_impl_CrossOf ha (⟨(fvc rfl : Fv .f32 1065353216 (some 1065353216)), (fvc rfl : Fv .f32 0 (some 0)), (fvc rfl : Fv .f32 0 (some 0))⟩ : Fv3 1065353216 0 0 ⟨some 1065353216, some 0, some 0⟩) _).mono ?_
        rintro e W9c ⟨⟨x9, y9, z9, rfl, hv9⟩, hb⟩
        clear c0_0 c0_1 c0_2 c1_0 c1_1 c1_2 c2_0 c2_1 c2_2 c2_3 fz0 fz1 fz2
        replace hp0 := hp0.below hb
        replace hp1 := hp1.below hb
        replace hp2 := hp2.below hb
        replace hbel := hbel.trans (hb.mono hbel.size)
        clear hb
        have LW9chp0 := hp0.lt; have LW9chp1 := hp1.lt; have LW9chp2 := hp2.lt; have SW9c := hbel.size
        obtain ⟨⟨c0_0, c0_1, c0_2⟩, fz0⟩ := id hp0
        obtain ⟨⟨c1_0, c1_1, c1_2⟩, fz1⟩ := id hp1
        obtain ⟨⟨c2_0, c2_1, c2_2, c2_3⟩, fz2⟩ := id hp2
        go_upto_region 6 with fail
        refine wp_name (fun wr => HasF3 wr w.heap.size ax ay az ∧ HasF3 wr (w.heap.size + 1) cx cy cz ∧ HasF4 wr (w.heap.size + 2) 0 0 0 0 ∧ HasF3 wr W9c.heap.size x9 y9 z9 ∧ Below w.heap.size w wr) ⟨by (repeat (first | assumption | (refine HasF3.set ?_ _ _ (by first | omega | (simp; try omega))) | (refine HasF4.set ?_ _ _ (by first | omega | (simp; try omega))) | (refine HasF3.alloc ?_ _) | (refine HasF4.alloc ?_ _) | (refine HasF3.drewN ?_ _) | (refine HasF4.drewN ?_ _))), by (repeat (first | assumption | (refine HasF3.set ?_ _ _ (by first | omega | (simp; try omega))) | (refine HasF4.set ?_ _ _ (by first | omega | (simp; try omega))) | (refine HasF3.alloc ?_ _) | (refine HasF4.alloc ?_ _) | (refine HasF3.drewN ?_ _) | (refine HasF4.drewN ?_ _))), by (repeat (first | assumption | (refine HasF3.set ?_ _ _ (by first | omega | (simp; try omega))) | (refine HasF4.set ?_ _ _ (by first | omega | (simp; try omega))) | (refine HasF3.alloc ?_ _) | (refine HasF4.alloc ?_ _) | (refine HasF3.drewN ?_ _) | (refine HasF4.drewN ?_ _))), ⟨⟨by first | simp | go_simp, by first | simp | go_simp, by first | simp | go_simp⟩, fun o => by simp [*]⟩, by (repeat (first | exact Below.refl _ _ | (refine below_drewN ?_ _) | (refine Below.drew ?_) | (refine Below.setCell ?_ (by first | omega | (simp; try omega)) _) | (refine Below.alloc ?_ (by first | omega | (simp; try omega)) _) | (refine Below.trans ?_ (Below.mono (by assumption) (by first | omega | (simp; try omega))))))⟩ ?_
        clear hbel hp0 hp1 hp2 c0_0 c0_1 c0_2 c1_0 c1_1 c1_2 c2_0 c2_1 c2_2 c2_3 fz0 fz1 fz2
        rintro W10n ⟨hp0, hp1, hp2, hp3, hbel⟩
        have LW10nhp0 := hp0.lt; have LW10nhp1 := hp1.lt; have LW10nhp2 := hp2.lt; have LW10nhp3 := hp3.lt; have SW10n := hbel.size
        refine wp_region_drawn [(31, isV (vec x9 y9 z9)), (32, isFlt .f32 (longC (crossC (Ca) ((⟨some 1065353216, some 0, some 0⟩ : V3))))), (33, isV (vec ax ay az)), (34, isFlt .f32 (longC (Ca))), (35, isFlt .f32 (D (longC (Ca)) (some 1149239296))), (36, isV (.bool (leB (longC (crossC (Ca) ((⟨some 1065353216, some 0, some 0⟩ : V3)))) (D (longC (Ca)) (some 1149239296)))))]
          (fun wr => HasF3 wr w.heap.size ax ay az ∧ HasF3 wr (w.heap.size + 1) cx cy cz ∧ HasF4 wr (w.heap.size + 2) 0 0 0 0 ∧ HasF3 wr W9c.heap.size x9 y9 z9 ∧ Below W10n.heap.size W10n wr)
          (by kernel_rfl) (by kernel_rfl) (by kernel_rfl) (by kernel_rfl) (Nat.le_of_ble_eq_true (by kernel_rfl)) (by kernel_rfl) ?_ (fun _ _ hb h => ⟨h.1.below hb, h.2.1.below hb, h.2.2.1.below hb, h.2.2.2.1.below hb, h.2.2.2.2.trans (hb.mono h.2.2.2.2.size)⟩) ⟨hp0, hp1, hp2, hp3, (Below.refl _ _).drew⟩ ?_ ?_
        · intro p hp
          simp only [List.mem_cons, List.not_mem_nil, or_false] at hp
          rcases hp with rfl | rfl | rfl | rfl | rfl | rfl <;> first | exact mono_isV _ | exact mono_isVec _ | exact mono_isTurn _ | exact mono_isFlt _ _ | exact mono_isOwn3 _ | exact mono_isOwn4 _
        · intro i o hi ho f w1 hI hdep
          simp only [List.map_cons, List.map_nil, mix, List.contains_cons, List.contains_nil, Nat.reduceBEq, Bool.or_true, Bool.or_false, Bool.false_eq_true, if_true, if_false, Nat.reduceAdd, Nat.zero_add]
          have hcase : i = 0 ∨ i = 1 ∨ i = 2 ∨ i = 3 ∨ i = 4 ∨ i = 5 := by simp at hi; omega
          obtain ⟨⟨⟨c0_0, c0_1, c0_2⟩, fz0⟩, ⟨⟨c1_0, c1_1, c1_2⟩, fz1⟩, ⟨⟨c2_0, c2_1, c2_2, c2_3⟩, fz2⟩, ⟨⟨c3_0, c3_1, c3_2⟩, fz3⟩, hb1⟩ := hI
          have hsz := hb1.size
          rcases hcase with rfl | rfl | rfl | rfl | rfl | rfl
          · obtain rfl := Option.some.inj ho
            clear hdep ho hi
            generalize f 31 = v31 at *; generalize f 32 = v32 at *; generalize f 33 = v33 at *; generalize f 34 = v34 at *; generalize f 35 = v35 at *; generalize f 36 = v36 at *
            refine wpOp_step rfl (fun K hK => ?_)
            go_simp
            exact hK _ _ ⟨_, rfl, (fun p hp => by cases hp; rfl), Below.refl _ _⟩
          · obtain rfl := Option.some.inj ho
            have e0 : f 31 = (vec x9 y9 z9) := hdep ⟨0, .data⟩ (by simp) rfl
            clear hdep ho hi
            generalize f 31 = v31 at *; generalize f 32 = v32 at *; generalize f 33 = v33 at *; generalize f 34 = v34 at *; generalize f 35 = v35 at *; generalize f 36 = v36 at *
            subst e0
            refine wpOp_step rfl (fun K hK => ?_)
            go_simp
            refine (c_impl_LongOf hv9 _).mono ?_
            rintro e w' ⟨⟨y0, rfl, hv⟩, hb⟩
            exact hK _ _ ⟨_, rfl, (fun p hp => by cases hp; exact ⟨_, rfl, hv⟩), hb⟩
          · obtain rfl := Option.some.inj ho
            clear hdep ho hi
            generalize f 31 = v31 at *; generalize f 32 = v32 at *; generalize f 33 = v33 at *; generalize f 34 = v34 at *; generalize f 35 = v35 at *; generalize f 36 = v36 at *
            refine wpOp_step rfl (fun K hK => ?_)
            go_simp
            exact hK _ _ ⟨_, rfl, (fun p hp => by cases hp; rfl), Below.refl _ _⟩
          · obtain rfl := Option.some.inj ho
            have e2 : f 33 = (vec ax ay az) := hdep ⟨2, .data⟩ (by simp) rfl
            clear hdep ho hi
            generalize f 31 = v31 at *; generalize f 32 = v32 at *; generalize f 33 = v33 at *; generalize f 34 = v34 at *; generalize f 35 = v35 at *; generalize f 36 = v36 at *
            subst e2
            refine wpOp_step rfl (fun K hK => ?_)
            go_simp
            refine (c_impl_LongOf ha _).mono ?_
            rintro e w' ⟨⟨y0, rfl, hv⟩, hb⟩
            exact hK _ _ ⟨_, rfl, (fun p hp => by cases hp; exact ⟨_, rfl, hv⟩), hb⟩
          · obtain rfl := Option.some.inj ho
            obtain ⟨r3, e3, hv3⟩ : isFlt _ _ (f 34) w1 := hdep ⟨3, .data⟩ (by simp) rfl
            clear hdep ho hi
            generalize f 31 = v31 at *; generalize f 32 = v32 at *; generalize f 33 = v33 at *; generalize f 34 = v34 at *; generalize f 35 = v35 at *; generalize f 36 = v36 at *
            subst e3
            refine wpOp_step rfl (fun K hK => ?_)
            go_simp
            (with_reducible apply upon_float_bin); exact rfl; exact hv3; exact (fvc rfl : Fv .f32 1149239296 (some 1149239296)); intro r n hr
            exact hK _ _ ⟨_, rfl, (fun p hp => by cases hp; exact ⟨_, rfl, hr⟩), below_drewN (Below.refl _ _) _⟩
          · obtain rfl := Option.some.inj ho
            obtain ⟨r1, e1, hv1⟩ : isFlt _ _ (f 32) w1 := hdep ⟨1, .data⟩ (by simp) rfl
            obtain ⟨r4, e4, hv4⟩ : isFlt _ _ (f 35) w1 := hdep ⟨4, .data⟩ (by simp) rfl
            clear hdep ho hi
            generalize f 31 = v31 at *; generalize f 32 = v32 at *; generalize f 33 = v33 at *; generalize f 34 = v34 at *; generalize f 35 = v35 at *; generalize f 36 = v36 at *
            subst e1 e4
            refine wpOp_step rfl (fun K hK => ?_)
            go_simp
            exact hK _ _ ⟨_, rfl, (fun p hp => by cases hp; exact congrArg Value.bool (by unfold leB; rw [order_fv hv1 hv4])), Below.refl _ _⟩
        · intro f w1 hI hF
          simp only [List.map_cons, List.map_nil, mix, List.contains_cons, List.contains_nil, Nat.reduceBEq, Bool.or_true, Bool.or_false, Bool.false_eq_true, if_true, if_false, Nat.reduceAdd, Nat.zero_add]
          obtain ⟨hp0, hp1, hp2, hp3, hb1⟩ := hI
          have hsz := hb1.size
          replace hbel := hbel.trans (hb1.mono hbel.size)
          have e5 : f 36 = (.bool (leB (longC (crossC (Ca) ((⟨some 1065353216, some 0, some 0⟩ : V3)))) (D (longC (Ca)) (some 1149239296)))) := hF 5 (by simp)
          rw [(show leB (longC (crossC (Ca) ((⟨some 1065353216, some 0, some 0⟩ : V3)))) (D (longC (Ca)) (some 1149239296)) = false from q2)] at e5
          clear hF
          generalize f 31 = v31 at *; generalize f 32 = v32 at *; generalize f 33 = v33 at *; generalize f 34 = v34 at *; generalize f 35 = v35 at *; generalize f 36 = v36 at *
          subst e5
          have Lw11hp0 := hp0.lt; have Lw11hp1 := hp1.lt; have Lw11hp2 := hp2.lt; have Lw11hp3 := hp3.lt
          obtain ⟨⟨c0_0, c0_1, c0_2⟩, fz0⟩ := id hp0
          obtain ⟨⟨c1_0, c1_1, c1_2⟩, fz1⟩ := id hp1
          obtain ⟨⟨c2_0, c2_1, c2_2, c2_3⟩, fz2⟩ := id hp2
          obtain ⟨⟨c3_0, c3_1, c3_2⟩, fz3⟩ := id hp3
          refine wpAny_done (by kernel_rfl) ?_ _
          go_upto_region 8 with fail
          refine wp_name (fun wr => HasF3 wr w.heap.size ax ay az ∧ HasF3 wr (w.heap.size + 1) cx cy cz ∧ HasF4 wr (w.heap.size + 2) 0 0 0 0 ∧ HasF3 wr W9c.heap.size x9 y9 z9 ∧ Below w.heap.size w wr) ⟨by (repeat (first | assumption | (refine HasF3.set ?_ _ _ (by first | omega | (simp; try omega))) | (refine HasF4.set ?_ _ _ (by first | omega | (simp; try omega))) | (refine HasF3.alloc ?_ _) | (refine HasF4.alloc ?_ _) | (refine HasF3.drewN ?_ _) | (refine HasF4.drewN ?_ _))), by (repeat (first | assumption | (refine HasF3.set ?_ _ _ (by first | omega | (simp; try omega))) | (refine HasF4.set ?_ _ _ (by first | omega | (simp; try omega))) | (refine HasF3.alloc ?_ _) | (refine HasF4.alloc ?_ _) | (refine HasF3.drewN ?_ _) | (refine HasF4.drewN ?_ _))), by (repeat (first | assumption | (refine HasF3.set ?_ _ _ (by first | omega | (simp; try omega))) | (refine HasF4.set ?_ _ _ (by first | omega | (simp; try omega))) | (refine HasF3.alloc ?_ _) | (refine HasF4.alloc ?_ _) | (refine HasF3.drewN ?_ _) | (refine HasF4.drewN ?_ _))), by (repeat (first | assumption | (refine HasF3.set ?_ _ _ (by first | omega | (simp; try omega))) | (refine HasF4.set ?_ _ _ (by first | omega | (simp; try omega))) | (refine HasF3.alloc ?_ _) | (refine HasF4.alloc ?_ _) | (refine HasF3.drewN ?_ _) | (refine HasF4.drewN ?_ _))), by (repeat (first | exact Below.refl _ _ | (refine below_drewN ?_ _) | (refine Below.drew ?_) | (refine Below.setCell ?_ (by first | omega | (simp; try omega)) _) | (refine Below.alloc ?_ (by first | omega | (simp; try omega)) _) | (refine Below.trans ?_ (Below.mono (by assumption) (by first | omega | (simp; try omega))))))⟩ ?_
          clear hbel hb1 hsz hp0 hp1 hp2 hp3 c0_0 c0_1 c0_2 c1_0 c1_1 c1_2 c2_0 c2_1 c2_2 c2_3 c3_0 c3_1 c3_2 fz0 fz1 fz2 fz3
          rintro W12n ⟨hp0, hp1, hp2, hp3, hbel⟩
          have LW12nhp0 := hp0.lt; have LW12nhp1 := hp1.lt; have LW12nhp2 := hp2.lt; have LW12nhp3 := hp3.lt; have SW12n := hbel.size
          obtain ⟨⟨c0_0, c0_1, c0_2⟩, fz0⟩ := id hp0
          obtain ⟨⟨c1_0, c1_1, c1_2⟩, fz1⟩ := id hp1
          obtain ⟨⟨c2_0, c2_1, c2_2, c2_3⟩, fz2⟩ := id hp2
          obtain ⟨⟨c3_0, c3_1, c3_2⟩, fz3⟩ := id hp3
          go_wp2_with fail
          refine (c_impl_turnOf (fvc rfl : Fv .f32 0 (some 0)) hv9 _).mono ?_
          rintro e W13c ⟨⟨w13, x13, y13, z13, rfl, hv13⟩, hb⟩
          clear c0_0 c0_1 c0_2 c1_0 c1_1 c1_2 c2_0 c2_1 c2_2 c2_3 c3_0 c3_1 c3_2 fz0 fz1 fz2 fz3
          replace hp0 := hp0.below hb
          replace hp1 := hp1.below hb
          replace hp2 := hp2.below hb
          replace hp3 := hp3.below hb
          replace hbel := hbel.trans (hb.mono hbel.size)
          clear hb
          have LW13chp0 := hp0.lt; have LW13chp1 := hp1.lt; have LW13chp2 := hp2.lt; have LW13chp3 := hp3.lt; have SW13c := hbel.size
          obtain ⟨⟨c0_0, c0_1, c0_2⟩, fz0⟩ := id hp0
          obtain ⟨⟨c1_0, c1_1, c1_2⟩, fz1⟩ := id hp1
          obtain ⟨⟨c2_0, c2_1, c2_2, c2_3⟩, fz2⟩ := id hp2
          obtain ⟨⟨c3_0, c3_1, c3_2⟩, fz3⟩ := id hp3
          go_wp2_with fail
          refine (c_impl_MendTurn hv13 _).mono ?_
          rintro e W14c ⟨⟨w14, x14, y14, z14, rfl, hv14⟩, hb⟩
          clear c0_0 c0_1 c0_2 c1_0 c1_1 c1_2 c2_0 c2_1 c2_2 c2_3 c3_0 c3_1 c3_2 fz0 fz1 fz2 fz3
          replace hp0 := hp0.below hb
          replace hp1 := hp1.below hb
          replace hp2 := hp2.below hb
          replace hp3 := hp3.below hb
          replace hbel := hbel.trans (hb.mono hbel.size)
          clear hb
          have LW14chp0 := hp0.lt; have LW14chp1 := hp1.lt; have LW14chp2 := hp2.lt; have LW14chp3 := hp3.lt; have SW14c := hbel.size
          obtain ⟨⟨c0_0, c0_1, c0_2⟩, fz0⟩ := id hp0
          obtain ⟨⟨c1_0, c1_1, c1_2⟩, fz1⟩ := id hp1
          obtain ⟨⟨c2_0, c2_1, c2_2, c2_3⟩, fz2⟩ := id hp2
          obtain ⟨⟨c3_0, c3_1, c3_2⟩, fz3⟩ := id hp3
          go_wp2_with fail
          apply ret_turn; exact hv14.w; exact hv14.x; exact hv14.y; exact hv14.z; simp [results, Try.results24, go_sem, *]; rfl; (repeat (first | exact Below.refl _ _ | (refine below_drewN ?_ _) | (refine Below.drew ?_) | (refine Below.setCell ?_ (by first | omega | (simp; try omega)) _) | (refine Below.alloc ?_ (by first | omega | (simp; try omega)) _) | (refine Below.trans ?_ (Below.mono (by assumption) (by first | omega | (simp; try omega))))))
    | true =>
      have hcls : tbC Ca Cc = mendC (turnC (some 0) (crossC Ca eyC)) := by unfold tbC; simp [q1, q2]
      rw [hcls]; clear hcls
      go_enter Try.func24, Try.ntmps24
      go_upto_region 1 with fail
      refine wp_name (fun wr => HasF3 wr w.heap.size ax ay az ∧ HasF3 wr (w.heap.size + 1) cx cy cz ∧ HasF4 wr (w.heap.size + 2) 0 0 0 0 ∧ Below w.heap.size w wr) ⟨⟨⟨by go_simp, by go_simp, by go_simp⟩, fun o => by go_simp⟩, ⟨⟨by go_simp, by go_simp, by go_simp⟩, fun o => by go_simp⟩, ⟨⟨by go_simp, by go_simp, by go_simp, by go_simp⟩, fun o => by go_simp⟩, by (repeat (first | exact Below.refl _ _ | (refine below_drewN ?_ _) | (refine Below.drew ?_) | (refine Below.setCell ?_ (by first | omega | (simp; try omega)) _) | (refine Below.alloc ?_ (by first | omega | (simp; try omega)) _) | (refine Below.trans ?_ (Below.mono (by assumption) (by first | omega | (simp; try omega))))))⟩ ?_
      rintro W1 ⟨hp0, hp1, hp2, hbel⟩
      have LW1hp0 := hp0.lt; have LW1hp1 := hp1.lt; have LW1hp2 := hp2.lt; have SW1 := hbel.size
      refine wp_region_drawn [(8, isV (vec ax ay az)), (9, isFlt .f32 (longC (Ca))), (10, isV (vec cx cy cz)), (11, isFlt .f32 (longC (Cc))), (12, isFlt .f32 (M (longC (Ca)) (longC (Cc))))]
        (fun wr => HasF3 wr w.heap.size ax ay az ∧ HasF3 wr (w.heap.size + 1) cx cy cz ∧ HasF4 wr (w.heap.size + 2) 0 0 0 0 ∧ Below W1.heap.size W1 wr)
        (by kernel_rfl) (by kernel_rfl) (by kernel_rfl) (by kernel_rfl) (Nat.le_of_ble_eq_true (by kernel_rfl)) (by kernel_rfl) ?_ (fun _ _ hb h => ⟨h.1.below hb, h.2.1.below hb, h.2.2.1.below hb, h.2.2.2.trans (hb.mono h.2.2.2.size)⟩) ⟨hp0, hp1, hp2, (Below.refl _ _).drew⟩ ?_ ?_
      · intro p hp
        simp only [List.mem_cons, List.not_mem_nil, or_false] at hp
        rcases hp with rfl | rfl | rfl | rfl | rfl <;> first | exact mono_isV _ | exact mono_isVec _ | exact mono_isTurn _ | exact mono_isFlt _ _ | exact mono_isOwn3 _ | exact mono_isOwn4 _
      · intro i o hi ho f w1 hI hdep
        simp only [List.map_cons, List.map_nil, mix, List.contains_cons, List.contains_nil, Nat.reduceBEq, Bool.or_true, Bool.or_false, Bool.false_eq_true, if_true, if_false, Nat.reduceAdd, Nat.zero_add]
        have hcase : i = 0 ∨ i = 1 ∨ i = 2 ∨ i = 3 ∨ i = 4 := by simp at hi; omega
        obtain ⟨⟨⟨c0_0, c0_1, c0_2⟩, fz0⟩, ⟨⟨c1_0, c1_1, c1_2⟩, fz1⟩, ⟨⟨c2_0, c2_1, c2_2, c2_3⟩, fz2⟩, hb1⟩ := hI
        have hsz := hb1.size
        rcases hcase with rfl | rfl | rfl | rfl | rfl
        · obtain rfl := Option.some.inj ho
          clear hdep ho hi
          generalize f 8 = v8 at *; generalize f 9 = v9 at *; generalize f 10 = v10 at *; generalize f 11 = v11 at *; generalize f 12 = v12 at *
          refine wpOp_step rfl (fun K hK => ?_)
          go_simp
          exact hK _ _ ⟨_, rfl, (fun p hp => by cases hp; rfl), Below.refl _ _⟩
        · obtain rfl := Option.some.inj ho
          have e0 : f 8 = (vec ax ay az) := hdep ⟨0, .data⟩ (by simp) rfl
          clear hdep ho hi
          generalize f 8 = v8 at *; generalize f 9 = v9 at *; generalize f 10 = v10 at *; generalize f 11 = v11 at *; generalize f 12 = v12 at *
          subst e0
          refine wpOp_step rfl (fun K hK => ?_)
          go_simp
          refine (c_impl_LongOf ha _).mono ?_
          rintro e w' ⟨⟨y0, rfl, hv⟩, hb⟩
          exact hK _ _ ⟨_, rfl, (fun p hp => by cases hp; exact ⟨_, rfl, hv⟩), hb⟩
        · obtain rfl := Option.some.inj ho
          clear hdep ho hi
          generalize f 8 = v8 at *; generalize f 9 = v9 at *; generalize f 10 = v10 at *; generalize f 11 = v11 at *; generalize f 12 = v12 at *
          refine wpOp_step rfl (fun K hK => ?_)
          go_simp
          exact hK _ _ ⟨_, rfl, (fun p hp => by cases hp; rfl), Below.refl _ _⟩
        · obtain rfl := Option.some.inj ho
          have e2 : f 10 = (vec cx cy cz) := hdep ⟨2, .data⟩ (by simp) rfl
          clear hdep ho hi
          generalize f 8 = v8 at *; generalize f 9 = v9 at *; generalize f 10 = v10 at *; generalize f 11 = v11 at *; generalize f 12 = v12 at *
          subst e2
          refine wpOp_step rfl (fun K hK => ?_)
          go_simp
          refine (c_impl_LongOf hc _).mono ?_
          rintro e w' ⟨⟨y0, rfl, hv⟩, hb⟩
          exact hK _ _ ⟨_, rfl, (fun p hp => by cases hp; exact ⟨_, rfl, hv⟩), hb⟩
        · obtain rfl := Option.some.inj ho
          obtain ⟨r1, e1, hv1⟩ : isFlt _ _ (f 9) w1 := hdep ⟨1, .data⟩ (by simp) rfl
          obtain ⟨r3, e3, hv3⟩ : isFlt _ _ (f 11) w1 := hdep ⟨3, .data⟩ (by simp) rfl
          clear hdep ho hi
          generalize f 8 = v8 at *; generalize f 9 = v9 at *; generalize f 10 = v10 at *; generalize f 11 = v11 at *; generalize f 12 = v12 at *
          subst e1 e3
          refine wpOp_step rfl (fun K hK => ?_)
          go_simp
          (with_reducible apply upon_float_bin); exact rfl; exact hv1; exact hv3; intro r n hr
          exact hK _ _ ⟨_, rfl, (fun p hp => by cases hp; exact ⟨_, rfl, hr⟩), below_drewN (Below.refl _ _) _⟩
      · intro f w1 hI hF
        simp only [List.map_cons, List.map_nil, mix, List.contains_cons, List.contains_nil, Nat.reduceBEq, Bool.or_true, Bool.or_false, Bool.false_eq_true, if_true, if_false, Nat.reduceAdd, Nat.zero_add]
        obtain ⟨hp0, hp1, hp2, hb1⟩ := hI
        have hsz := hb1.size
        replace hbel := hbel.trans (hb1.mono hbel.size)
        obtain ⟨r1_12, e4, hv1_12⟩ : isFlt _ _ (f 12) w1 := hF 4 (by simp)
        clear hF
        generalize f 8 = v8 at *; generalize f 9 = v9 at *; generalize f 10 = v10 at *; generalize f 11 = v11 at *; generalize f 12 = v12 at *
        subst e4
        have Lw1hp0 := hp0.lt; have Lw1hp1 := hp1.lt; have Lw1hp2 := hp2.lt
        obtain ⟨⟨c0_0, c0_1, c0_2⟩, fz0⟩ := id hp0
        obtain ⟨⟨c1_0, c1_1, c1_2⟩, fz1⟩ := id hp1
        obtain ⟨⟨c2_0, c2_1, c2_2, c2_3⟩, fz2⟩ := id hp2
        change wpAny _ _ _ _ (0 + 1) _ _ _
        refine wpAny_all (rs := [5]) (by kernel_rfl) (by simp) ?_
        intro i hi
        obtain rfl : i = 5 := by simpa using hi
        clear hi
        refine wpOp_step rfl (fun K hK => ?_)
        go_simp
        refine hK _ _ (wpAny_done (by kernel_rfl) ?_ _)
        clear hK K
        go_upto_region 2 with fail
        refine wp_name (fun wr => HasF3 wr w.heap.size ax ay az ∧ HasF3 wr (w.heap.size + 1) cx cy cz ∧ HasF4 wr (w.heap.size + 2) 0 0 0 0 ∧ Below w.heap.size w wr) ⟨by (repeat (first | assumption | (refine HasF3.set ?_ _ _ (by first | omega | (simp; try omega))) | (refine HasF4.set ?_ _ _ (by first | omega | (simp; try omega))) | (refine HasF3.alloc ?_ _) | (refine HasF4.alloc ?_ _) | (refine HasF3.drewN ?_ _) | (refine HasF4.drewN ?_ _))), by (repeat (first | assumption | (refine HasF3.set ?_ _ _ (by first | omega | (simp; try omega))) | (refine HasF4.set ?_ _ _ (by first | omega | (simp; try omega))) | (refine HasF3.alloc ?_ _) | (refine HasF4.alloc ?_ _) | (refine HasF3.drewN ?_ _) | (refine HasF4.drewN ?_ _))), by (repeat (first | assumption | (refine HasF3.set ?_ _ _ (by first | omega | (simp; try omega))) | (refine HasF4.set ?_ _ _ (by first | omega | (simp; try omega))) | (refine HasF3.alloc ?_ _) | (refine HasF4.alloc ?_ _) | (refine HasF3.drewN ?_ _) | (refine HasF4.drewN ?_ _))), by (repeat (first | exact Below.refl _ _ | (refine below_drewN ?_ _) | (refine Below.drew ?_) | (refine Below.setCell ?_ (by first | omega | (simp; try omega)) _) | (refine Below.alloc ?_ (by first | omega | (simp; try omega)) _) | (refine Below.trans ?_ (Below.mono (by assumption) (by first | omega | (simp; try omega))))))⟩ ?_
        clear hbel hb1 hsz hp0 hp1 hp2 c0_0 c0_1 c0_2 c1_0 c1_1 c1_2 c2_0 c2_1 c2_2 c2_3 fz0 fz1 fz2
        rintro W2n ⟨hp0, hp1, hp2, hbel⟩
        have LW2nhp0 := hp0.lt; have LW2nhp1 := hp1.lt; have LW2nhp2 := hp2.lt; have SW2n := hbel.size
        obtain ⟨⟨c0_0, c0_1, c0_2⟩, fz0⟩ := id hp0
        obtain ⟨⟨c1_0, c1_1, c1_2⟩, fz1⟩ := id hp1
        obtain ⟨⟨c2_0, c2_1, c2_2, c2_3⟩, fz2⟩ := id hp2
        go_wp2_with fail
        refine (c_impl_InnerOf ha hc _).mono ?_
        rintro e W3c ⟨⟨r3, rfl, hv3⟩, hb⟩
        clear c0_0 c0_1 c0_2 c1_0 c1_1 c1_2 c2_0 c2_1 c2_2 c2_3 fz0 fz1 fz2
        replace hp0 := hp0.below hb
        replace hp1 := hp1.below hb
        replace hp2 := hp2.below hb
        replace hbel := hbel.trans (hb.mono hbel.size)
        clear hb
        have LW3chp0 := hp0.lt; have LW3chp1 := hp1.lt; have LW3chp2 := hp2.lt; have SW3c := hbel.size
        obtain ⟨⟨c0_0, c0_1, c0_2⟩, fz0⟩ := id hp0
        obtain ⟨⟨c1_0, c1_1, c1_2⟩, fz1⟩ := id hp1
        obtain ⟨⟨c2_0, c2_1, c2_2, c2_3⟩, fz2⟩ := id hp2
        go_wp2_with fail
        (with_reducible apply upon_float_bin); exact rfl; exact hv1_12; exact hv3; intro r4 n4 hv4; (try rw [World.drewN_drewN]); simp only [Act.put, List.setIfInBounds_toArray, List.set_cons_zero, List.set_cons_succ]
        go_upto_region 3 with fail
        refine wp_name (fun wr => HasF3 wr w.heap.size ax ay az ∧ HasF3 wr (w.heap.size + 1) cx cy cz ∧ HasF4 wr (w.heap.size + 2) 0 0 0 0 ∧ Below w.heap.size w wr) ⟨by (repeat (first | assumption | (refine HasF3.set ?_ _ _ (by first | omega | (simp; try omega))) | (refine HasF4.set ?_ _ _ (by first | omega | (simp; try omega))) | (refine HasF3.alloc ?_ _) | (refine HasF4.alloc ?_ _) | (refine HasF3.drewN ?_ _) | (refine HasF4.drewN ?_ _))), by (repeat (first | assumption | (refine HasF3.set ?_ _ _ (by first | omega | (simp; try omega))) | (refine HasF4.set ?_ _ _ (by first | omega | (simp; try omega))) | (refine HasF3.alloc ?_ _) | (refine HasF4.alloc ?_ _) | (refine HasF3.drewN ?_ _) | (refine HasF4.drewN ?_ _))), by (repeat (first | assumption | (refine HasF3.set ?_ _ _ (by first | omega | (simp; try omega))) | (refine HasF4.set ?_ _ _ (by first | omega | (simp; try omega))) | (refine HasF3.alloc ?_ _) | (refine HasF4.alloc ?_ _) | (refine HasF3.drewN ?_ _) | (refine HasF4.drewN ?_ _))), by (repeat (first | exact Below.refl _ _ | (refine below_drewN ?_ _) | (refine Below.drew ?_) | (refine Below.setCell ?_ (by first | omega | (simp; try omega)) _) | (refine Below.alloc ?_ (by first | omega | (simp; try omega)) _) | (refine Below.trans ?_ (Below.mono (by assumption) (by first | omega | (simp; try omega))))))⟩ ?_
        clear hbel hp0 hp1 hp2 c0_0 c0_1 c0_2 c1_0 c1_1 c1_2 c2_0 c2_1 c2_2 c2_3 fz0 fz1 fz2
        rintro W5n ⟨hp0, hp1, hp2, hbel⟩
        have LW5nhp0 := hp0.lt; have LW5nhp1 := hp1.lt; have LW5nhp2 := hp2.lt; have SW5n := hbel.size
        obtain ⟨⟨c0_0, c0_1, c0_2⟩, fz0⟩ := id hp0
        obtain ⟨⟨c1_0, c1_1, c1_2⟩, fz1⟩ := id hp1
        obtain ⟨⟨c2_0, c2_1, c2_2, c2_3⟩, fz2⟩ := id hp2
        go_wp2_with fail
        (with_reducible apply upon_float_bin); exact rfl; exact hv1_12; exact (fvc rfl : Fv .f32 1149239296 (some 1149239296)); intro r6 n6 hv6; (try rw [World.drewN_drewN]); simp only [Act.put, List.setIfInBounds_toArray, List.set_cons_zero, List.set_cons_succ]
        have hq7 : (FloatKind.f32.format.order r4 r6 == some .gt) = false := by rw [order_fv hv4 hv6]; exact q1
        go_upto_region 5 with fail
        refine wp_name (fun wr => HasF3 wr w.heap.size ax ay az ∧ HasF3 wr (w.heap.size + 1) cx cy cz ∧ HasF4 wr (w.heap.size + 2) 0 0 0 0 ∧ Below w.heap.size w wr) ⟨by (repeat (first | assumption | (refine HasF3.set ?_ _ _ (by first | omega | (simp; try omega))) | (refine HasF4.set ?_ _ _ (by first | omega | (simp; try omega))) | (refine HasF3.alloc ?_ _) | (refine HasF4.alloc ?_ _) | (refine HasF3.drewN ?_ _) | (refine HasF4.drewN ?_ _))), by (repeat (first | assumption | (refine HasF3.set ?_ _ _ (by first | omega | (simp; try omega))) | (refine HasF4.set ?_ _ _ (by first | omega | (simp; try omega))) | (refine HasF3.alloc ?_ _) | (refine HasF4.alloc ?_ _) | (refine HasF3.drewN ?_ _) | (refine HasF4.drewN ?_ _))), by (repeat (first | assumption | (refine HasF3.set ?_ _ _ (by first | omega | (simp; try omega))) | (refine HasF4.set ?_ _ _ (by first | omega | (simp; try omega))) | (refine HasF3.alloc ?_ _) | (refine HasF4.alloc ?_ _) | (refine HasF3.drewN ?_ _) | (refine HasF4.drewN ?_ _))), by (repeat (first | exact Below.refl _ _ | (refine below_drewN ?_ _) | (refine Below.drew ?_) | (refine Below.setCell ?_ (by first | omega | (simp; try omega)) _) | (refine Below.alloc ?_ (by first | omega | (simp; try omega)) _) | (refine Below.trans ?_ (Below.mono (by assumption) (by first | omega | (simp; try omega))))))⟩ ?_
        clear hbel hp0 hp1 hp2 c0_0 c0_1 c0_2 c1_0 c1_1 c1_2 c2_0 c2_1 c2_2 c2_3 fz0 fz1 fz2
        rintro W8n ⟨hp0, hp1, hp2, hbel⟩
        have LW8nhp0 := hp0.lt; have LW8nhp1 := hp1.lt; have LW8nhp2 := hp2.lt; have SW8n := hbel.size
        obtain ⟨⟨c0_0, c0_1, c0_2⟩, fz0⟩ := id hp0
        obtain ⟨⟨c1_0, c1_1, c1_2⟩, fz1⟩ := id hp1
        obtain ⟨⟨c2_0, c2_1, c2_2, c2_3⟩, fz2⟩ := id hp2
        go_wp2_with fail
        refine (c_impl_CrossOf ha (⟨(fvc rfl : Fv .f32 1065353216 (some 1065353216)), (fvc rfl : Fv .f32 0 (some 0)), (fvc rfl : Fv .f32 0 (some 0))⟩ : Fv3 1065353216 0 0 ⟨some 1065353216, some 0, some 0⟩) _).mono ?_
        rintro e W9c ⟨⟨x9, y9, z9, rfl, hv9⟩, hb⟩
        clear c0_0 c0_1 c0_2 c1_0 c1_1 c1_2 c2_0 c2_1 c2_2 c2_3 fz0 fz1 fz2
        replace hp0 := hp0.below hb
        replace hp1 := hp1.below hb
        replace hp2 := hp2.below hb
        replace hbel := hbel.trans (hb.mono hbel.size)
        clear hb
        have LW9chp0 := hp0.lt; have LW9chp1 := hp1.lt; have LW9chp2 := hp2.lt; have SW9c := hbel.size
        obtain ⟨⟨c0_0, c0_1, c0_2⟩, fz0⟩ := id hp0
        obtain ⟨⟨c1_0, c1_1, c1_2⟩, fz1⟩ := id hp1
        obtain ⟨⟨c2_0, c2_1, c2_2, c2_3⟩, fz2⟩ := id hp2
        go_upto_region 6 with fail
        refine wp_name (fun wr => HasF3 wr w.heap.size ax ay az ∧ HasF3 wr (w.heap.size + 1) cx cy cz ∧ HasF4 wr (w.heap.size + 2) 0 0 0 0 ∧ HasF3 wr W9c.heap.size x9 y9 z9 ∧ Below w.heap.size w wr) ⟨by (repeat (first | assumption | (refine HasF3.set ?_ _ _ (by first | omega | (simp; try omega))) | (refine HasF4.set ?_ _ _ (by first | omega | (simp; try omega))) | (refine HasF3.alloc ?_ _) | (refine HasF4.alloc ?_ _) | (refine HasF3.drewN ?_ _) | (refine HasF4.drewN ?_ _))), by (repeat (first | assumption | (refine HasF3.set ?_ _ _ (by first | omega | (simp; try omega))) | (refine HasF4.set ?_ _ _ (by first | omega | (simp; try omega))) | (refine HasF3.alloc ?_ _) | (refine HasF4.alloc ?_ _) | (refine HasF3.drewN ?_ _) | (refine HasF4.drewN ?_ _))), by (repeat (first | assumption | (refine HasF3.set ?_ _ _ (by first | omega | (simp; try omega))) | (refine HasF4.set ?_ _ _ (by first | omega | (simp; try omega))) | (refine HasF3.alloc ?_ _) | (refine HasF4.alloc ?_ _) | (refine HasF3.drewN ?_ _) | (refine HasF4.drewN ?_ _))), ⟨⟨by first | simp | go_simp, by first | simp | go_simp, by first | simp | go_simp⟩, fun o => by simp [*]⟩, by (repeat (first | exact Below.refl _ _ | (refine below_drewN ?_ _) | (refine Below.drew ?_) | (refine Below.setCell ?_ (by first | omega | (simp; try omega)) _) | (refine Below.alloc ?_ (by first | omega | (simp; try omega)) _) | (refine Below.trans ?_ (Below.mono (by assumption) (by first | omega | (simp; try omega))))))⟩ ?_
        clear hbel hp0 hp1 hp2 c0_0 c0_1 c0_2 c1_0 c1_1 c1_2 c2_0 c2_1 c2_2 c2_3 fz0 fz1 fz2
        rintro W10n ⟨hp0, hp1, hp2, hp3, hbel⟩
        have LW10nhp0 := hp0.lt; have LW10nhp1 := hp1.lt; have LW10nhp2 := hp2.lt; have LW10nhp3 := hp3.lt; have SW10n := hbel.size
        refine wp_region_drawn [(31, isV (vec x9 y9 z9)), (32, isFlt .f32 (longC (crossC (Ca) ((⟨some 1065353216, some 0, some 0⟩ : V3))))), (33, isV (vec ax ay az)), (34, isFlt .f32 (longC (Ca))), (35, isFlt .f32 (D (longC (Ca)) (some 1149239296))), (36, isV (.bool (leB (longC (crossC (Ca) ((⟨some 1065353216, some 0, some 0⟩ : V3)))) (D (longC (Ca)) (some 1149239296)))))]
          (fun wr => HasF3 wr w.heap.size ax ay az ∧ HasF3 wr (w.heap.size + 1) cx cy cz ∧ HasF4 wr (w.heap.size + 2) 0 0 0 0 ∧ HasF3 wr W9c.heap.size x9 y9 z9 ∧ Below W10n.heap.size W10n wr)
          (by kernel_rfl) (by kernel_rfl) (by kernel_rfl) (by kernel_rfl) (Nat.le_of_ble_eq_true (by kernel_rfl)) (by kernel_rfl) ?_ (fun _ _ hb h => ⟨h.1.below hb, h.2.1.below hb, h.2.2.1.below hb, h.2.2.2.1.below hb, h.2.2.2.2.trans (hb.mono h.2.2.2.2.size)⟩) ⟨hp0, hp1, hp2, hp3, (Below.refl _ _).drew⟩ ?_ ?_
        · intro p hp
          simp only [List.mem_cons, List.not_mem_nil, or_false] at hp
          rcases hp with rfl | rfl | rfl | rfl | rfl | rfl <;> first | exact mono_isV _ | exact mono_isVec _ | exact mono_isTurn _ | exact mono_isFlt _ _ | exact mono_isOwn3 _ | exact mono_isOwn4 _
        · intro i o hi ho f w1 hI hdep
          simp only [List.map_cons, List.map_nil, mix, List.contains_cons, List.contains_nil, Nat.reduceBEq, Bool.or_true, Bool.or_false, Bool.false_eq_true, if_true, if_false, Nat.reduceAdd, Nat.zero_add]
          have hcase : i = 0 ∨ i = 1 ∨ i = 2 ∨ i = 3 ∨ i = 4 ∨ i = 5 := by simp at hi; omega
          obtain ⟨⟨⟨c0_0, c0_1, c0_2⟩, fz0⟩, ⟨⟨c1_0, c1_1, c1_2⟩, fz1⟩, ⟨⟨c2_0, c2_1, c2_2, c2_3⟩, fz2⟩, ⟨⟨c3_0, c3_1, c3_2⟩, fz3⟩, hb1⟩ := hI
          have hsz := hb1.size
          rcases hcase with rfl | rfl | rfl | rfl | rfl | rfl
          · obtain rfl := Option.some.inj ho
            clear hdep ho hi
            generalize f 31 = v31 at *; generalize f 32 = v32 at *; generalize f 33 = v33 at *; generalize f 34 = v34 at *; generalize f 35 = v35 at *; generalize f 36 = v36 at *
            refine wpOp_step rfl (fun K hK => ?_)
            go_simp
            exact hK _ _ ⟨_, rfl, (fun p hp => by cases hp; rfl), Below.refl _ _⟩
          · obtain rfl := Option.some.inj ho
            have e0 : f 31 = (vec x9 y9 z9) := hdep ⟨0, .data⟩ (by simp) rfl
            clear hdep ho hi
            generalize f 31 = v31 at *; generalize f 32 = v32 at *; generalize f 33 = v33 at *; generalize f 34 = v34 at *; generalize f 35 = v35 at *; generalize f 36 = v36 at *
            subst e0
            refine wpOp_step rfl (fun K hK => ?_)
            go_simp
            refine (c_impl_LongOf hv9 _).mono ?_
            rintro e w' ⟨⟨y0, rfl, hv⟩, hb⟩
            exact hK _ _ ⟨_, rfl, (fun p hp => by cases hp; exact ⟨_, rfl, hv⟩), hb⟩
          · obtain rfl := Option.some.inj ho
            clear hdep ho hi
            generalize f 31 = v31 at *; generalize f 32 = v32 at *; generalize f 33 = v33 at *; generalize f 34 = v34 at *; generalize f 35 = v35 at *; generalize f 36 = v36 at *
            refine wpOp_step rfl (fun K hK => ?_)
            go_simp
            exact hK _ _ ⟨_, rfl, (fun p hp => by cases hp; rfl), Below.refl _ _⟩
          · obtain rfl := Option.some.inj ho
            have e2 : f 33 = (vec ax ay az) := hdep ⟨2, .data⟩ (by simp) rfl
            clear hdep ho hi
            generalize f 31 = v31 at *; generalize f 32 = v32 at *; generalize f 33 = v33 at *; generalize f 34 = v34 at *; generalize f 35 = v35 at *; generalize f 36 = v36 at *
            subst e2
            refine wpOp_step rfl (fun K hK => ?_)
            go_simp
            refine (c_impl_LongOf ha _).mono ?_
            rintro e w' ⟨⟨y0, rfl, hv⟩, hb⟩
            exact hK _ _ ⟨_, rfl, (fun p hp => by cases hp; exact ⟨_, rfl, hv⟩), hb⟩
          · obtain rfl := Option.some.inj ho
            obtain ⟨r3, e3, hv3⟩ : isFlt _ _ (f 34) w1 := hdep ⟨3, .data⟩ (by simp) rfl
            clear hdep ho hi
            generalize f 31 = v31 at *; generalize f 32 = v32 at *; generalize f 33 = v33 at *; generalize f 34 = v34 at *; generalize f 35 = v35 at *; generalize f 36 = v36 at *
            subst e3
            refine wpOp_step rfl (fun K hK => ?_)
            go_simp
            (with_reducible apply upon_float_bin); exact rfl; exact hv3; exact (fvc rfl : Fv .f32 1149239296 (some 1149239296)); intro r n hr
            exact hK _ _ ⟨_, rfl, (fun p hp => by cases hp; exact ⟨_, rfl, hr⟩), below_drewN (Below.refl _ _) _⟩
          · obtain rfl := Option.some.inj ho
            obtain ⟨r1, e1, hv1⟩ : isFlt _ _ (f 32) w1 := hdep ⟨1, .data⟩ (by simp) rfl
            obtain ⟨r4, e4, hv4⟩ : isFlt _ _ (f 35) w1 := hdep ⟨4, .data⟩ (by simp) rfl
            clear hdep ho hi
            generalize f 31 = v31 at *; generalize f 32 = v32 at *; generalize f 33 = v33 at *; generalize f 34 = v34 at *; generalize f 35 = v35 at *; generalize f 36 = v36 at *
            subst e1 e4
            refine wpOp_step rfl (fun K hK => ?_)
            go_simp
            exact hK _ _ ⟨_, rfl, (fun p hp => by cases hp; exact congrArg Value.bool (by unfold leB; rw [order_fv hv1 hv4])), Below.refl _ _⟩
        · intro f w1 hI hF
          simp only [List.map_cons, List.map_nil, mix, List.contains_cons, List.contains_nil, Nat.reduceBEq, Bool.or_true, Bool.or_false, Bool.false_eq_true, if_true, if_false, Nat.reduceAdd, Nat.zero_add]
          obtain ⟨hp0, hp1, hp2, hp3, hb1⟩ := hI
          have hsz := hb1.size
          replace hbel := hbel.trans (hb1.mono hbel.size)
          have e5 : f 36 = (.bool (leB (longC (crossC (Ca) ((⟨some 1065353216, some 0, some 0⟩ : V3)))) (D (longC (Ca)) (some 1149239296)))) := hF 5 (by simp)
          rw [(show leB (longC (crossC (Ca) ((⟨some 1065353216, some 0, some 0⟩ : V3)))) (D (longC (Ca)) (some 1149239296)) = true from q2)] at e5
          clear hF
          generalize f 31 = v31 at *; generalize f 32 = v32 at *; generalize f 33 = v33 at *; generalize f 34 = v34 at *; generalize f 35 = v35 at *; generalize f 36 = v36 at *
          subst e5
          have Lw11hp0 := hp0.lt; have Lw11hp1 := hp1.lt; have Lw11hp2 := hp2.lt; have Lw11hp3 := hp3.lt
          obtain ⟨⟨c0_0, c0_1, c0_2⟩, fz0⟩ := id hp0
          obtain ⟨⟨c1_0, c1_1, c1_2⟩, fz1⟩ := id hp1
          obtain ⟨⟨c2_0, c2_1, c2_2, c2_3⟩, fz2⟩ := id hp2
          obtain ⟨⟨c3_0, c3_1, c3_2⟩, fz3⟩ := id hp3
          refine wpAny_done (by kernel_rfl) ?_ _
          go_upto_region 7 with fail
          refine wp_name (fun wr => HasF3 wr w.heap.size ax ay az ∧ HasF3 wr (w.heap.size + 1) cx cy cz ∧ HasF4 wr (w.heap.size + 2) 0 0 0 0 ∧ HasF3 wr W9c.heap.size x9 y9 z9 ∧ Below w.heap.size w wr) ⟨by (repeat (first | assumption | (refine HasF3.set ?_ _ _ (by first | omega | (simp; try omega))) | (refine HasF4.set ?_ _ _ (by first | omega | (simp; try omega))) | (refine HasF3.alloc ?_ _) | (refine HasF4.alloc ?_ _) | (refine HasF3.drewN ?_ _) | (refine HasF4.drewN ?_ _))), by (repeat (first | assumption | (refine HasF3.set ?_ _ _ (by first | omega | (simp; try omega))) | (refine HasF4.set ?_ _ _ (by first | omega | (simp; try omega))) | (refine HasF3.alloc ?_ _) | (refine HasF4.alloc ?_ _) | (refine HasF3.drewN ?_ _) | (refine HasF4.drewN ?_ _))), by (repeat (first | assumption | (refine HasF3.set ?_ _ _ (by first | omega | (simp; try omega))) | (refine HasF4.set ?_ _ _ (by first | omega | (simp; try omega))) | (refine HasF3.alloc ?_ _) | (refine HasF4.alloc ?_ _) | (refine HasF3.drewN ?_ _) | (refine HasF4.drewN ?_ _))), by (repeat (first | assumption | (refine HasF3.set ?_ _ _ (by first | omega | (simp; try omega))) | (refine HasF4.set ?_ _ _ (by first | omega | (simp; try omega))) | (refine HasF3.alloc ?_ _) | (refine HasF4.alloc ?_ _) | (refine HasF3.drewN ?_ _) | (refine HasF4.drewN ?_ _))), by (repeat (first | exact Below.refl _ _ | (refine below_drewN ?_ _) | (refine Below.drew ?_) | (refine Below.setCell ?_ (by first | omega | (simp; try omega)) _) | (refine Below.alloc ?_ (by first | omega | (simp; try omega)) _) | (refine Below.trans ?_ (Below.mono (by assumption) (by first | omega | (simp; try omega))))))⟩ ?_
          clear hbel hb1 hsz hp0 hp1 hp2 hp3 c0_0 c0_1 c0_2 c1_0 c1_1 c1_2 c2_0 c2_1 c2_2 c2_3 c3_0 c3_1 c3_2 fz0 fz1 fz2 fz3
          rintro W12n ⟨hp0, hp1, hp2, hp3, hbel⟩
          have LW12nhp0 := hp0.lt; have LW12nhp1 := hp1.lt; have LW12nhp2 := hp2.lt; have LW12nhp3 := hp3.lt; have SW12n := hbel.size
          obtain ⟨⟨c0_0, c0_1, c0_2⟩, fz0⟩ := id hp0
          obtain ⟨⟨c1_0, c1_1, c1_2⟩, fz1⟩ := id hp1
          obtain ⟨⟨c2_0, c2_1, c2_2, c2_3⟩, fz2⟩ := id hp2
          obtain ⟨⟨c3_0, c3_1, c3_2⟩, fz3⟩ := id hp3
          go_wp2_with fail
          refine (c_impl_CrossOf ha (⟨(fvc rfl : Fv .f32 0 (some 0)), (fvc rfl : Fv .f32 1065353216 (some 1065353216)), (fvc rfl : Fv .f32 0 (some 0))⟩ : Fv3 0 1065353216 0 ⟨some 0, some 1065353216, some 0⟩) _).mono ?_
          rintro e W13c ⟨⟨x13, y13, z13, rfl, hv13⟩, hb⟩
          clear c0_0 c0_1 c0_2 c1_0 c1_1 c1_2 c2_0 c2_1 c2_2 c2_3 c3_0 c3_1 c3_2 fz0 fz1 fz2 fz3
          replace hp0 := hp0.below hb
          replace hp1 := hp1.below hb
          replace hp2 := hp2.below hb
          replace hp3 := hp3.below hb
          replace hbel := hbel.trans (hb.mono hbel.size)
          clear hb
          have LW13chp0 := hp0.lt; have LW13chp1 := hp1.lt; have LW13chp2 := hp2.lt; have LW13chp3 := hp3.lt; have SW13c := hbel.size
          obtain ⟨⟨c0_0, c0_1, c0_2⟩, fz0⟩ := id hp0
          obtain ⟨⟨c1_0, c1_1, c1_2⟩, fz1⟩ := id hp1
          obtain ⟨⟨c2_0, c2_1, c2_2, c2_3⟩, fz2⟩ := id hp2
          obtain ⟨⟨c3_0, c3_1, c3_2⟩, fz3⟩ := id hp3
          go_upto_region 8 with fail
          refine wp_name (fun wr => HasF3 wr w.heap.size ax ay az ∧ HasF3 wr (w.heap.size + 1) cx cy cz ∧ HasF4 wr (w.heap.size + 2) 0 0 0 0 ∧ HasF3 wr W9c.heap.size x13 y13 z13 ∧ Below w.heap.size w wr) ⟨by (repeat (first | assumption | (refine HasF3.set ?_ _ _ (by first | omega | (simp; try omega))) | (refine HasF4.set ?_ _ _ (by first | omega | (simp; try omega))) | (refine HasF3.alloc ?_ _) | (refine HasF4.alloc ?_ _) | (refine HasF3.drewN ?_ _) | (refine HasF4.drewN ?_ _))), by (repeat (first | assumption | (refine HasF3.set ?_ _ _ (by first | omega | (simp; try omega))) | (refine HasF4.set ?_ _ _ (by first | omega | (simp; try omega))) | (refine HasF3.alloc ?_ _) | (refine HasF4.alloc ?_ _) | (refine HasF3.drewN ?_ _) | (refine HasF4.drewN ?_ _))), by (repeat (first | assumption | (refine HasF3.set ?_ _ _ (by first | omega | (simp; try omega))) | (refine HasF4.set ?_ _ _ (by first | omega | (simp; try omega))) | (refine HasF3.alloc ?_ _) | (refine HasF4.alloc ?_ _) | (refine HasF3.drewN ?_ _) | (refine HasF4.drewN ?_ _))), ⟨⟨by first | simp | go_simp, by first | simp | go_simp, by first | simp | go_simp⟩, fun o => by simp [*]⟩, by (repeat (first | exact Below.refl _ _ | (refine below_drewN ?_ _) | (refine Below.drew ?_) | (refine Below.setCell ?_ (by first | omega | (simp; try omega)) _) | (refine Below.alloc ?_ (by first | omega | (simp; try omega)) _) | (refine Below.trans ?_ (Below.mono (by assumption) (by first | omega | (simp; try omega))))))⟩ ?_
          clear hbel hp0 hp1 hp2 hp3 c0_0 c0_1 c0_2 c1_0 c1_1 c1_2 c2_0 c2_1 c2_2 c2_3 c3_0 c3_1 c3_2 fz0 fz1 fz2 fz3
          rintro W14n ⟨hp0, hp1, hp2, hp3, hbel⟩
          have LW14nhp0 := hp0.lt; have LW14nhp1 := hp1.lt; have LW14nhp2 := hp2.lt; have LW14nhp3 := hp3.lt; have SW14n := hbel.size
          obtain ⟨⟨c0_0, c0_1, c0_2⟩, fz0⟩ := id hp0
          obtain ⟨⟨c1_0, c1_1, c1_2⟩, fz1⟩ := id hp1
          obtain ⟨⟨c2_0, c2_1, c2_2, c2_3⟩, fz2⟩ := id hp2
          obtain ⟨⟨c3_0, c3_1, c3_2⟩, fz3⟩ := id hp3
          go_wp2_with fail
          refine (c_impl_turnOf (fvc rfl : Fv .f32 0 (some 0)) hv13 _).mono ?_
          rintro e W15c ⟨⟨w15, x15, y15, z15, rfl, hv15⟩, hb⟩
          clear c0_0 c0_1 c0_2 c1_0 c1_1 c1_2 c2_0 c2_1 c2_2 c2_3 c3_0 c3_1 c3_2 fz0 fz1 fz2 fz3
          replace hp0 := hp0.below hb
          replace hp1 := hp1.below hb
          replace hp2 := hp2.below hb
          replace hp3 := hp3.below hb
          replace hbel := hbel.trans (hb.mono hbel.size)
          clear hb
          have LW15chp0 := hp0.lt; have LW15chp1 := hp1.lt; have LW15chp2 := hp2.lt; have LW15chp3 := hp3.lt; have SW15c := hbel.size
          obtain ⟨⟨c0_0, c0_1, c0_2⟩, fz0⟩ := id hp0
          obtain ⟨⟨c1_0, c1_1, c1_2⟩, fz1⟩ := id hp1
          obtain ⟨⟨c2_0, c2_1, c2_2, c2_3⟩, fz2⟩ := id hp2
          obtain ⟨⟨c3_0, c3_1, c3_2⟩, fz3⟩ := id hp3
          go_wp2_with fail
          refine (c_impl_MendTurn hv15 _).mono ?_
          rintro e W16c ⟨⟨w16, x16, y16, z16, rfl, hv16⟩, hb⟩
          clear c0_0 c0_1 c0_2 c1_0 c1_1 c1_2 c2_0 c2_1 c2_2 c2_3 c3_0 c3_1 c3_2 fz0 fz1 fz2 fz3
          replace hp0 := hp0.below hb
          replace hp1 := hp1.below hb
          replace hp2 := hp2.below hb
          replace hp3 := hp3.below hb
          replace hbel := hbel.trans (hb.mono hbel.size)
          clear hb
          have LW16chp0 := hp0.lt; have LW16chp1 := hp1.lt; have LW16chp2 := hp2.lt; have LW16chp3 := hp3.lt; have SW16c := hbel.size
          obtain ⟨⟨c0_0, c0_1, c0_2⟩, fz0⟩ := id hp0
          obtain ⟨⟨c1_0, c1_1, c1_2⟩, fz1⟩ := id hp1
          obtain ⟨⟨c2_0, c2_1, c2_2, c2_3⟩, fz2⟩ := id hp2
          obtain ⟨⟨c3_0, c3_1, c3_2⟩, fz3⟩ := id hp3
          go_wp2_with fail
          apply ret_turn; exact hv16.w; exact hv16.x; exact hv16.y; exact hv16.z; simp [results, Try.results24, go_sem, *]; rfl; (repeat (first | exact Below.refl _ _ | (refine below_drewN ?_ _) | (refine Below.drew ?_) | (refine Below.setCell ?_ (by first | omega | (simp; try omega)) _) | (refine Below.alloc ?_ (by first | omega | (simp; try omega)) _) | (refine Below.trans ?_ (Below.mono (by assumption) (by first | omega | (simp; try omega))))))
  | true =>
    have hcls : tbC Ca Cc = mendC (turnC (tbW Ca Cc) (crossC Ca Cc)) := by unfold tbC; simp [q1]
    rw [hcls]; clear hcls
    go_enter Try.func24, Try.ntmps24
    go_upto_region 1 with fail
    refine wp_name (fun wr => HasF3 wr w.heap.size ax ay az ∧ HasF3 wr (w.heap.size + 1) cx cy cz ∧ HasF4 wr (w.heap.size + 2) 0 0 0 0 ∧ Below w.heap.size w wr) ⟨⟨⟨by go_simp, by go_simp, by go_simp⟩, fun o => by go_simp⟩, ⟨⟨by go_simp, by go_simp, by go_simp⟩, fun o => by go_simp⟩, ⟨⟨by go_simp, by go_simp, by go_simp, by go_simp⟩, fun o => by go_simp⟩, by (repeat (first | exact Below.refl _ _ | (refine below_drewN ?_ _) | (refine Below.drew ?_) | (refine Below.setCell ?_ (by first | omega | (simp; try omega)) _) | (refine Below.alloc ?_ (by first | omega | (simp; try omega)) _) | (refine Below.trans ?_ (Below.mono (by assumption) (by first | omega | (simp; try omega))))))⟩ ?_
    rintro W1 ⟨hp0, hp1, hp2, hbel⟩
    have LW1hp0 := hp0.lt; have LW1hp1 := hp1.lt; have LW1hp2 := hp2.lt; have SW1 := hbel.size
    refine wp_region_drawn [(8, isV (vec ax ay az)), (9, isFlt .f32 (longC (Ca))), (10, isV (vec cx cy cz)), (11, isFlt .f32 (longC (Cc))), (12, isFlt .f32 (M (longC (Ca)) (longC (Cc))))]
      (fun wr => HasF3 wr w.heap.size ax ay az ∧ HasF3 wr (w.heap.size + 1) cx cy cz ∧ HasF4 wr (w.heap.size + 2) 0 0 0 0 ∧ Below W1.heap.size W1 wr)
      (by kernel_rfl) (by kernel_rfl) (by kernel_rfl) (by kernel_rfl) (Nat.le_of_ble_eq_true (by kernel_rfl)) (by kernel_rfl) ?_ (fun _ _ hb h => ⟨h.1.below hb, h.2.1.below hb, h.2.2.1.below hb, h.2.2.2.trans (hb.mono h.2.2.2.size)⟩) ⟨hp0, hp1, hp2, (Below.refl _ _).drew⟩ ?_ ?_
    · intro p hp
      simp only [List.mem_cons, List.not_mem_nil, or_false] at hp
      rcases hp with rfl | rfl | rfl | rfl | rfl <;> first | exact mono_isV _ | exact mono_isVec _ | exact mono_isTurn _ | exact mono_isFlt _ _ | exact mono_isOwn3 _ | exact mono_isOwn4 _
    · intro i o hi ho f w1 hI hdep
      simp only [List.map_cons, List.map_nil, mix, List.contains_cons, List.contains_nil, Nat.reduceBEq, Bool.or_true, Bool.or_false, Bool.false_eq_true, if_true, if_false, Nat.reduceAdd, Nat.zero_add]
      have hcase : i = 0 ∨ i = 1 ∨ i = 2 ∨ i = 3 ∨ i = 4 := by simp at hi; omega
      obtain ⟨⟨⟨c0_0, c0_1, c0_2⟩, fz0⟩, ⟨⟨c1_0, c1_1, c1_2⟩, fz1⟩, ⟨⟨c2_0, c2_1, c2_2, c2_3⟩, fz2⟩, hb1⟩ := hI
      have hsz := hb1.size
      rcases hcase with rfl | rfl | rfl | rfl | rfl
      · obtain rfl := Option.some.inj ho
        clear hdep ho hi
        generalize f 8 = v8 at *; generalize f 9 = v9 at *; generalize f 10 = v10 at *; generalize f 11 = v11 at *; generalize f 12 = v12 at *
        refine wpOp_step rfl (fun K hK => ?_)
        go_simp
        exact hK _ _ ⟨_, rfl, (fun p hp => by cases hp; rfl), Below.refl _ _⟩
      · obtain rfl := Option.some.inj ho
        have e0 : f 8 = (vec ax ay az) := hdep ⟨0, .data⟩ (by simp) rfl
        clear hdep ho hi
        generalize f 8 = v8 at *; generalize f 9 = v9 at *; generalize f 10 = v10 at *; generalize f 11 = v11 at *; generalize f 12 = v12 at *
        subst e0
        refine wpOp_step rfl (fun K hK => ?_)
        go_simp
        refine (c_impl_LongOf ha _).mono ?_
        rintro e w' ⟨⟨y0, rfl, hv⟩, hb⟩
        exact hK _ _ ⟨_, rfl, (fun p hp => by cases hp; exact ⟨_, rfl, hv⟩), hb⟩
      · obtain rfl := Option.some.inj ho
        clear hdep ho hi
        generalize f 8 = v8 at *; generalize f 9 = v9 at *; generalize f 10 = v10 at *; generalize f 11 = v11 at *; generalize f 12 = v12 at *
        refine wpOp_step rfl (fun K hK => ?_)
        go_simp
        exact hK _ _ ⟨_, rfl, (fun p hp => by cases hp; rfl), Below.refl _ _⟩
      · obtain rfl := Option.some.inj ho
        have e2 : f 10 = (vec cx cy cz) := hdep ⟨2, .data⟩ (by simp) rfl
        clear hdep ho hi
        generalize f 8 = v8 at *; generalize f 9 = v9 at *; generalize f 10 = v10 at *; generalize f 11 = v11 at *; generalize f 12 = v12 at *
        subst e2
        refine wpOp_step rfl (fun K hK => ?_)
        go_simp
        refine (c_impl_LongOf hc _).mono ?_
        rintro e w' ⟨⟨y0, rfl, hv⟩, hb⟩
        exact hK _ _ ⟨_, rfl, (fun p hp => by cases hp; exact ⟨_, rfl, hv⟩), hb⟩
      · obtain rfl := Option.some.inj ho
        obtain ⟨r1, e1, hv1⟩ : isFlt _ _ (f 9) w1 := hdep ⟨1, .data⟩ (by simp) rfl
        obtain ⟨r3, e3, hv3⟩ : isFlt _ _ (f 11) w1 := hdep ⟨3, .data⟩ (by simp) rfl
        clear hdep ho hi
        generalize f 8 = v8 at *; generalize f 9 = v9 at *; generalize f 10 = v10 at *; generalize f 11 = v11 at *; generalize f 12 = v12 at *
        subst e1 e3
        refine wpOp_step rfl (fun K hK => ?_)
        go_simp
        (with_reducible apply upon_float_bin); exact rfl; exact hv1; exact hv3; intro r n hr
        exact hK _ _ ⟨_, rfl, (fun p hp => by cases hp; exact ⟨_, rfl, hr⟩), below_drewN (Below.refl _ _) _⟩
    · intro f w1 hI hF
      simp only [List.map_cons, List.map_nil, mix, List.contains_cons, List.contains_nil, Nat.reduceBEq, Bool.or_true, Bool.or_false, Bool.false_eq_true, if_true, if_false, Nat.reduceAdd, Nat.zero_add]
      obtain ⟨hp0, hp1, hp2, hb1⟩ := hI
      have hsz := hb1.size
      replace hbel := hbel.trans (hb1.mono hbel.size)
      obtain ⟨r1_12, e4, hv1_12⟩ : isFlt _ _ (f 12) w1 := hF 4 (by simp)
      clear hF
      generalize f 8 = v8 at *; generalize f 9 = v9 at *; generalize f 10 = v10 at *; generalize f 11 = v11 at *; generalize f 12 = v12 at *
      subst e4
      have Lw1hp0 := hp0.lt; have Lw1hp1 := hp1.lt; have Lw1hp2 := hp2.lt
      obtain ⟨⟨c0_0, c0_1, c0_2⟩, fz0⟩ := id hp0
      obtain ⟨⟨c1_0, c1_1, c1_2⟩, fz1⟩ := id hp1
      obtain ⟨⟨c2_0, c2_1, c2_2, c2_3⟩, fz2⟩ := id hp2
      change wpAny _ _ _ _ (0 + 1) _ _ _
      refine wpAny_all (rs := [5]) (by kernel_rfl) (by simp) ?_
      intro i hi
      obtain rfl : i = 5 := by simpa using hi
      clear hi
      refine wpOp_step rfl (fun K hK => ?_)
      go_simp
      refine hK _ _ (wpAny_done (by kernel_rfl) ?_ _)
      clear hK K
      go_upto_region 2 with fail
      refine wp_name (fun wr => HasF3 wr w.heap.size ax ay az ∧ HasF3 wr (w.heap.size + 1) cx cy cz ∧ HasF4 wr (w.heap.size + 2) 0 0 0 0 ∧ Below w.heap.size w wr) ⟨by (repeat (first | assumption | (refine HasF3.set ?_ _ _ (by first | omega | (simp; try omega))) | (refine HasF4.set ?_ _ _ (by first | omega | (simp; try omega))) | (refine HasF3.alloc ?_ _) | (refine HasF4.alloc ?_ _) | (refine HasF3.drewN ?_ _) | (refine HasF4.drewN ?_ _))), by (repeat (first | assumption | (refine HasF3.set ?_ _ _ (by first | omega | (simp; try omega))) | (refine HasF4.set ?_ _ _ (by first | omega | (simp; try omega))) | (refine HasF3.alloc ?_ _) | (refine HasF4.alloc ?_ _) | (refine HasF3.drewN ?_ _) | (refine HasF4.drewN ?_ _))), by (repeat (first | assumption | (refine HasF3.set ?_ _ _ (by first | omega | (simp; try omega))) | (refine HasF4.set ?_ _ _ (by first | omega | (simp; try omega))) | (refine HasF3.alloc ?_ _) | (refine HasF4.alloc ?_ _) | (refine HasF3.drewN ?_ _) | (refine HasF4.drewN ?_ _))), by (repeat (first | exact Below.refl _ _ | (refine below_drewN ?_ _) | (refine Below.drew ?_) | (refine Below.setCell ?_ (by first | omega | (simp; try omega)) _) | (refine Below.alloc ?_ (by first | omega | (simp; try omega)) _) | (refine Below.trans ?_ (Below.mono (by assumption) (by first | omega | (simp; try omega))))))⟩ ?_
      clear hbel hb1 hsz hp0 hp1 hp2 c0_0 c0_1 c0_2 c1_0 c1_1 c1_2 c2_0 c2_1 c2_2 c2_3 fz0 fz1 fz2
      rintro W2n ⟨hp0, hp1, hp2, hbel⟩
      have LW2nhp0 := hp0.lt; have LW2nhp1 := hp1.lt; have LW2nhp2 := hp2.lt; have SW2n := hbel.size
      obtain ⟨⟨c0_0, c0_1, c0_2⟩, fz0⟩ := id hp0
      obtain ⟨⟨c1_0, c1_1, c1_2⟩, fz1⟩ := id hp1
      obtain ⟨⟨c2_0, c2_1, c2_2, c2_3⟩, fz2⟩ := id hp2
      go_wp2_with fail
      refine (c_impl_InnerOf ha hc _).mono ?_
      rintro e W3c ⟨⟨r3, rfl, hv3⟩, hb⟩
      clear c0_0 c0_1 c0_2 c1_0 c1_1 c1_2 c2_0 c2_1 c2_2 c2_3 fz0 fz1 fz2
      replace hp0 := hp0.below hb
      replace hp1 := hp1.below hb
      replace hp2 := hp2.below hb
      replace hbel := hbel.trans (hb.mono hbel.size)
      clear hb
      have LW3chp0 := hp0.lt; have LW3chp1 := hp1.lt; have LW3chp2 := hp2.lt; have SW3c := hbel.size
      obtain ⟨⟨c0_0, c0_1, c0_2⟩, fz0⟩ := id hp0
      obtain ⟨⟨c1_0, c1_1, c1_2⟩, fz1⟩ := id hp1
      obtain ⟨⟨c2_0, c2_1, c2_2, c2_3⟩, fz2⟩ := id hp2
      go_wp2_with fail
      (with_reducible apply upon_float_bin); exact rfl; exact hv1_12; exact hv3; intro r4 n4 hv4; (try rw [World.drewN_drewN]); simp only [Act.put, List.setIfInBounds_toArray, List.set_cons_zero, List.set_cons_succ]
      go_upto_region 3 with fail
      refine wp_name (fun wr => HasF3 wr w.heap.size ax ay az ∧ HasF3 wr (w.heap.size + 1) cx cy cz ∧ HasF4 wr (w.heap.size + 2) 0 0 0 0 ∧ Below w.heap.size w wr) ⟨by (repeat (first | assumption | (refine HasF3.set ?_ _ _ (by first | omega | (simp; try omega))) | (refine HasF4.set ?_ _ _ (by first | omega | (simp; try omega))) | (refine HasF3.alloc ?_ _) | (refine HasF4.alloc ?_ _) | (refine HasF3.drewN ?_ _) | (refine HasF4.drewN ?_ _))), by (repeat (first | assumption | (refine HasF3.set ?_ _ _ (by first | omega | (simp; try omega))) | (refine HasF4.set ?_ _ _ (by first | omega | (simp; try omega))) | (refine HasF3.alloc ?_ _) | (refine HasF4.alloc ?_ _) | (refine HasF3.drewN ?_ _) | (refine HasF4.drewN ?_ _))), by (repeat (first | assumption | (refine HasF3.set ?_ _ _ (by first | omega | (simp; try omega))) | (refine HasF4.set ?_ _ _ (by first | omega | (simp; try omega))) | (refine HasF3.alloc ?_ _) | (refine HasF4.alloc ?_ _) | (refine HasF3.drewN ?_ _) | (refine HasF4.drewN ?_ _))), by (repeat (first | exact Below.refl _ _ | (refine below_drewN ?_ _) | (refine Below.drew ?_) | (refine Below.setCell ?_ (by first | omega | (simp; try omega)) _) | (refine Below.alloc ?_ (by first | omega | (simp; try omega)) _) | (refine Below.trans ?_ (Below.mono (by assumption) (by first | omega | (simp; try omega))))))⟩ ?_
      clear hbel hp0 hp1 hp2 c0_0 c0_1 c0_2 c1_0 c1_1 c1_2 c2_0 c2_1 c2_2 c2_3 fz0 fz1 fz2
      rintro W5n ⟨hp0, hp1, hp2, hbel⟩
      have LW5nhp0 := hp0.lt; have LW5nhp1 := hp1.lt; have LW5nhp2 := hp2.lt; have SW5n := hbel.size
      obtain ⟨⟨c0_0, c0_1, c0_2⟩, fz0⟩ := id hp0
      obtain ⟨⟨c1_0, c1_1, c1_2⟩, fz1⟩ := id hp1
      obtain ⟨⟨c2_0, c2_1, c2_2, c2_3⟩, fz2⟩ := id hp2
      go_wp2_with fail
      (with_reducible apply upon_float_bin); exact rfl; exact hv1_12; exact (fvc rfl : Fv .f32 1149239296 (some 1149239296)); intro r6 n6 hv6; (try rw [World.drewN_drewN]); simp only [Act.put, List.setIfInBounds_toArray, List.set_cons_zero, List.set_cons_succ]
      have hq7 : (FloatKind.f32.format.order r4 r6 == some .gt) = true := by rw [order_fv hv4 hv6]; exact q1
      go_upto_region 4 with fail
      refine wp_name (fun wr => HasF3 wr w.heap.size ax ay az ∧ HasF3 wr (w.heap.size + 1) cx cy cz ∧ HasF4 wr (w.heap.size + 2) 0 0 0 0 ∧ Below w.heap.size w wr) ⟨by (repeat (first | assumption | (refine HasF3.set ?_ _ _ (by first | omega | (simp; try omega))) | (refine HasF4.set ?_ _ _ (by first | omega | (simp; try omega))) | (refine HasF3.alloc ?_ _) | (refine HasF4.alloc ?_ _) | (refine HasF3.drewN ?_ _) | (refine HasF4.drewN ?_ _))), by (repeat (first | assumption | (refine HasF3.set ?_ _ _ (by first | omega | (simp; try omega))) | (refine HasF4.set ?_ _ _ (by first | omega | (simp; try omega))) | (refine HasF3.alloc ?_ _) | (refine HasF4.alloc ?_ _) | (refine HasF3.drewN ?_ _) | (refine HasF4.drewN ?_ _))), by (repeat (first | assumption | (refine HasF3.set ?_ _ _ (by first | omega | (simp; try omega))) | (refine HasF4.set ?_ _ _ (by first | omega | (simp; try omega))) | (refine HasF3.alloc ?_ _) | (refine HasF4.alloc ?_ _) | (refine HasF3.drewN ?_ _) | (refine HasF4.drewN ?_ _))), by (repeat (first | exact Below.refl _ _ | (refine below_drewN ?_ _) | (refine Below.drew ?_) | (refine Below.setCell ?_ (by first | omega | (simp; try omega)) _) | (refine Below.alloc ?_ (by first | omega | (simp; try omega)) _) | (refine Below.trans ?_ (Below.mono (by assumption) (by first | omega | (simp; try omega))))))⟩ ?_
      clear hbel hp0 hp1 hp2 c0_0 c0_1 c0_2 c1_0 c1_1 c1_2 c2_0 c2_1 c2_2 c2_3 fz0 fz1 fz2
      rintro W8n ⟨hp0, hp1, hp2, hbel⟩
      have LW8nhp0 := hp0.lt; have LW8nhp1 := hp1.lt; have LW8nhp2 := hp2.lt; have SW8n := hbel.size
      obtain ⟨⟨c0_0, c0_1, c0_2⟩, fz0⟩ := id hp0
      obtain ⟨⟨c1_0, c1_1, c1_2⟩, fz1⟩ := id hp1
      obtain ⟨⟨c2_0, c2_1, c2_2, c2_3⟩, fz2⟩ := id hp2
      go_wp2_with fail
      refine (c_impl_CrossOf ha hc _).mono ?_
      rintro e W9c ⟨⟨x9, y9, z9, rfl, hv9⟩, hb⟩
      clear c0_0 c0_1 c0_2 c1_0 c1_1 c1_2 c2_0 c2_1 c2_2 c2_3 fz0 fz1 fz2
      replace hp0 := hp0.below hb
      replace hp1 := hp1.below hb
      replace hp2 := hp2.below hb
      replace hbel := hbel.trans (hb.mono hbel.size)
      clear hb
      have LW9chp0 := hp0.lt; have LW9chp1 := hp1.lt; have LW9chp2 := hp2.lt; have SW9c := hbel.size
      obtain ⟨⟨c0_0, c0_1, c0_2⟩, fz0⟩ := id hp0
      obtain ⟨⟨c1_0, c1_1, c1_2⟩, fz1⟩ := id hp1
      obtain ⟨⟨c2_0, c2_1, c2_2, c2_3⟩, fz2⟩ := id hp2
      go_wp2_with fail
      refine (c_impl_turnOf hv4 hv9 _).mono ?_
      rintro e W10c ⟨⟨w10, x10, y10, z10, rfl, hv10⟩, hb⟩
      clear c0_0 c0_1 c0_2 c1_0 c1_1 c1_2 c2_0 c2_1 c2_2 c2_3 fz0 fz1 fz2
      replace hp0 := hp0.below hb
      replace hp1 := hp1.below hb
      replace hp2 := hp2.below hb
      replace hbel := hbel.trans (hb.mono hbel.size)
      clear hb
      have LW10chp0 := hp0.lt; have LW10chp1 := hp1.lt; have LW10chp2 := hp2.lt; have SW10c := hbel.size
      obtain ⟨⟨c0_0, c0_1, c0_2⟩, fz0⟩ := id hp0
      obtain ⟨⟨c1_0, c1_1, c1_2⟩, fz1⟩ := id hp1
      obtain ⟨⟨c2_0, c2_1, c2_2, c2_3⟩, fz2⟩ := id hp2
      go_wp2_with fail
      refine (c_impl_MendTurn hv10 _).mono ?_
      rintro e W11c ⟨⟨w11, x11, y11, z11, rfl, hv11⟩, hb⟩
      clear c0_0 c0_1 c0_2 c1_0 c1_1 c1_2 c2_0 c2_1 c2_2 c2_3 fz0 fz1 fz2
      replace hp0 := hp0.below hb
      replace hp1 := hp1.below hb
      replace hp2 := hp2.below hb
      replace hbel := hbel.trans (hb.mono hbel.size)
      clear hb
      have LW11chp0 := hp0.lt; have LW11chp1 := hp1.lt; have LW11chp2 := hp2.lt; have SW11c := hbel.size
      obtain ⟨⟨c0_0, c0_1, c0_2⟩, fz0⟩ := id hp0
      obtain ⟨⟨c1_0, c1_1, c1_2⟩, fz1⟩ := id hp1
      obtain ⟨⟨c2_0, c2_1, c2_2, c2_3⟩, fz2⟩ := id hp2
      go_wp2_with fail
      apply ret_turn; exact hv11.w; exact hv11.x; exact hv11.y; exact hv11.z; simp [results, Try.results24, go_sem, *]; rfl; (repeat (first | exact Below.refl _ _ | (refine below_drewN ?_ _) | (refine Below.drew ?_) | (refine Below.setCell ?_ (by first | omega | (simp; try omega)) _) | (refine Below.alloc ?_ (by first | omega | (simp; try omega)) _) | (refine Below.trans ?_ (Below.mono (by assumption) (by first | omega | (simp; try omega))))))

set_option maxHeartbeats 4000000 in
set_option maxRecDepth 20000 in
theorem c_spec_l02Between {ax ay az cx cy cz : Nat} {Ca : V3} {Cc : V3} (ha : Fv3 ax ay az Ca) (hc : Fv3 cx cy cz Cc) (w : World) : Calls Try.prog 43 #[vec ax ay az, vec cx cy cz] w (RetT (tbC Ca Cc) w) := by
  cases q1 : gtB (tbW Ca Cc) (D (tbP Ca Cc) (some 1149239296)) with
  | false =>
    cases q2 : leB (longC (crossC Ca exC)) (D (longC Ca) (some 1149239296)) with
    | false =>
      have hcls : tbC Ca Cc = mendC (turnC (some 0) (crossC Ca exC)) := by unfold tbC; simp [q1, q2]
      rw [hcls]; clear hcls
      go_enter Try.func43, Try.ntmps43
      go_upto_region 1 with fail
      refine wp_name (fun wr => HasF3 wr w.heap.size ax ay az ∧ HasF3 wr (w.heap.size + 1) cx cy cz ∧ HasF4 wr (w.heap.size + 2) 0 0 0 0 ∧ Below w.heap.size w wr) ⟨⟨⟨by go_simp, by go_simp, by go_simp⟩, fun o => by go_simp⟩, ⟨⟨by go_simp, by go_simp, by go_simp⟩, fun o => by go_simp⟩, ⟨⟨by go_simp, by go_simp, by go_simp, by go_simp⟩, fun o => by go_simp⟩, by (repeat (first | exact Below.refl _ _ | (refine below_drewN ?_ _) | (refine Below.drew ?_) | (refine Below.setCell ?_ (by first | omega | (simp; try omega)) _) | (refine Below.alloc ?_ (by first | omega | (simp; try omega)) _) | (refine Below.trans ?_ (Below.mono (by assumption) (by first | omega | (simp; try omega))))))⟩ ?_
      rintro W1 ⟨hp0, hp1, hp2, hbel⟩
      have LW1hp0 := hp0.lt; have LW1hp1 := hp1.lt; have LW1hp2 := hp2.lt; have SW1 := hbel.size
      refine wp_region_drawn [(9, isV (vec ax ay az)), (10, isFlt .f32 (longC (Ca))), (11, isV (vec cx cy cz)), (12, isFlt .f32 (longC (Cc))), (13, isFlt .f32 (M (longC (Ca)) (longC (Cc))))]
        (fun wr => HasF3 wr w.heap.size ax ay az ∧ HasF3 wr (w.heap.size + 1) cx cy cz ∧ HasF4 wr (w.heap.size + 2) 0 0 0 0 ∧ Below W1.heap.size W1 wr)
        (by kernel_rfl) (by kernel_rfl) (by kernel_rfl) (by kernel_rfl) (Nat.le_of_ble_eq_true (by kernel_rfl)) (by kernel_rfl) ?_ (fun _ _ hb h => ⟨h.1.below hb, h.2.1.below hb, h.2.2.1.below hb, h.2.2.2.trans (hb.mono h.2.2.2.size)⟩) ⟨hp0, hp1, hp2, (Below.refl _ _).drew⟩ ?_ ?_
      · intro p hp
        simp only [List.mem_cons, List.not_mem_nil, or_false] at hp
        rcases hp with rfl | rfl | rfl | rfl | rfl <;> first | exact mono_isV _ | exact mono_isVec _ | exact mono_isTurn _ | exact mono_isFlt _ _ | exact mono_isOwn3 _ | exact mono_isOwn4 _
      · intro i o hi ho f w1 hI hdep
        simp only [List.map_cons, List.map_nil, mix, List.contains_cons, List.contains_nil, Nat.reduceBEq, Bool.or_true, Bool.or_false, Bool.false_eq_true, if_true, if_false, Nat.reduceAdd, Nat.zero_add]
        have hcase : i = 0 ∨ i = 1 ∨ i = 2 ∨ i = 3 ∨ i = 4 := by simp at hi; omega
        obtain ⟨⟨⟨c0_0, c0_1, c0_2⟩, fz0⟩, ⟨⟨c1_0, c1_1, c1_2⟩, fz1⟩, ⟨⟨c2_0, c2_1, c2_2, c2_3⟩, fz2⟩, hb1⟩ := hI
        have hsz := hb1.size
        rcases hcase with rfl | rfl | rfl | rfl | rfl
        · obtain rfl := Option.some.inj ho
          clear hdep ho hi
          generalize f 9 = v9 at *; generalize f 10 = v10 at *; generalize f 11 = v11 at *; generalize f 12 = v12 at *; generalize f 13 = v13 at *
          refine wpOp_step rfl (fun K hK => ?_)
          go_simp
          exact hK _ _ ⟨_, rfl, (fun p hp => by cases hp; rfl), Below.refl _ _⟩
        · obtain rfl := Option.some.inj ho
          have e0 : f 9 = (vec ax ay az) := hdep ⟨0, .data⟩ (by simp) rfl
          clear hdep ho hi
          generalize f 9 = v9 at *; generalize f 10 = v10 at *; generalize f 11 = v11 at *; generalize f 12 = v12 at *; generalize f 13 = v13 at *
          subst e0
          refine wpOp_step rfl (fun K hK => ?_)
          go_simp
          refine (c_spec_l01Long ha _).mono ?_
          rintro e w' ⟨⟨y0, rfl, hv⟩, hb⟩
          exact hK _ _ ⟨_, rfl, (fun p hp => by cases hp; exact ⟨_, rfl, hv⟩), hb⟩
        · obtain rfl := Option.some.inj ho
          clear hdep ho hi
          generalize f 9 = v9 at *; generalize f 10 = v10 at *; generalize f 11 = v11 at *; generalize f 12 = v12 at *; generalize f 13 = v13 at *
          refine wpOp_step rfl (fun K hK => ?_)
          go_simp
          exact hK _ _ ⟨_, rfl, (fun p hp => by cases hp; rfl), Below.refl _ _⟩
        · obtain rfl := Option.some.inj ho
          have e2 : f 11 = (vec cx cy cz) := hdep ⟨2, .data⟩ (by simp) rfl
          clear hdep ho hi
          generalize f 9 = v9 at *; generalize f 10 = v10 at *; generalize f 11 = v11 at *; generalize f 12 = v12 at *; generalize f 13 = v13 at *
          subst e2
          refine wpOp_step rfl (fun K hK => ?_)
          go_simp
          refine (c_spec_l01Long hc _).mono ?_
          rintro e w' ⟨⟨y0, rfl, hv⟩, hb⟩
          exact hK _ _ ⟨_, rfl, (fun p hp => by cases hp; exact ⟨_, rfl, hv⟩), hb⟩
        · obtain rfl := Option.some.inj ho
          obtain ⟨r1, e1, hv1⟩ : isFlt _ _ (f 10) w1 := hdep ⟨1, .data⟩ (by simp) rfl
          obtain ⟨r3, e3, hv3⟩ : isFlt _ _ (f 12) w1 := hdep ⟨3, .data⟩ (by simp) rfl
          clear hdep ho hi
          generalize f 9 = v9 at *; generalize f 10 = v10 at *; generalize f 11 = v11 at *; generalize f 12 = v12 at *; generalize f 13 = v13 at *
          subst e1 e3
          refine wpOp_step rfl (fun K hK => ?_)
          go_simp
          (with_reducible apply upon_float_bin); exact rfl; exact hv1; exact hv3; intro r n hr
          exact hK _ _ ⟨_, rfl, (fun p hp => by cases hp; exact ⟨_, rfl, hr⟩), below_drewN (Below.refl _ _) _⟩
      · intro f w1 hI hF
        simp only [List.map_cons, List.map_nil, mix, List.contains_cons, List.contains_nil, Nat.reduceBEq, Bool.or_true, Bool.or_false, Bool.false_eq_true, if_true, if_false, Nat.reduceAdd, Nat.zero_add]
        obtain ⟨hp0, hp1, hp2, hb1⟩ := hI
        have hsz := hb1.size
        replace hbel := hbel.trans (hb1.mono hbel.size)
        obtain ⟨r1_13, e4, hv1_13⟩ : isFlt _ _ (f 13) w1 := hF 4 (by simp)
        clear hF
        generalize f 9 = v9 at *; generalize f 10 = v10 at *; generalize f 11 = v11 at *; generalize f 12 = v12 at *; generalize f 13 = v13 at *
        subst e4
        have Lw1hp0 := hp0.lt; have Lw1hp1 := hp1.lt; have Lw1hp2 := hp2.lt
        obtain ⟨⟨c0_0, c0_1, c0_2⟩, fz0⟩ := id hp0
        obtain ⟨⟨c1_0, c1_1, c1_2⟩, fz1⟩ := id hp1
        obtain ⟨⟨c2_0, c2_1, c2_2, c2_3⟩, fz2⟩ := id hp2
        change wpAny _ _ _ _ (0 + 1) _ _ _
        refine wpAny_all (rs := [5]) (by kernel_rfl) (by simp) ?_
        intro i hi
        obtain rfl : i = 5 := by simpa using hi
        clear hi
        refine wpOp_step rfl (fun K hK => ?_)
        go_simp
        refine hK _ _ (wpAny_done (by kernel_rfl) ?_ _)
        clear hK K
        go_upto_region 2 with fail
        refine wp_name (fun wr => HasF3 wr w.heap.size ax ay az ∧ HasF3 wr (w.heap.size + 1) cx cy cz ∧ HasF4 wr (w.heap.size + 2) 0 0 0 0 ∧ Below w.heap.size w wr) ⟨by (repeat (first | assumption | (refine HasF3.set ?_ _ _ (by first | omega | (simp; try omega))) | (refine HasF4.set ?_ _ _ (by first | omega | (simp; try omega))) | (refine HasF3.alloc ?_ _) | (refine HasF4.alloc ?_ _) | (refine HasF3.drewN ?_ _) | (refine HasF4.drewN ?_ _))), by (repeat (first | assumption | (refine HasF3.set ?_ _ _ (by first | omega | (simp; try omega))) | (refine HasF4.set ?_ _ _ (by first | omega | (simp; try omega))) | (refine HasF3.alloc ?_ _) | (refine HasF4.alloc ?_ _) | (refine HasF3.drewN ?_ _) | (refine HasF4.drewN ?_ _))), by (repeat (first | assumption | (refine HasF3.set ?_ _ _ (by first | omega | (simp; try omega))) | (refine HasF4.set ?_ _ _ (by first | omega | (simp; try omega))) | (refine HasF3.alloc ?_ _) | (refine HasF4.alloc ?_ _) | (refine HasF3.drewN ?_ _) | (refine HasF4.drewN ?_ _))), by (repeat (first | exact Below.refl _ _ | (refine below_drewN ?_ _) | (refine Below.drew ?_) | (refine Below.setCell ?_ (by first | omega | (simp; try omega)) _) | (refine Below.alloc ?_ (by first | omega | (simp; try omega)) _) | (refine Below.trans ?_ (Below.mono (by assumption) (by first | omega | (simp; try omega))))))⟩ ?_
        clear hbel hb1 hsz hp0 hp1 hp2 c0_0 c0_1 c0_2 c1_0 c1_1 c1_2 c2_0 c2_1 c2_2 c2_3 fz0 fz1 fz2
        rintro W2n ⟨hp0, hp1, hp2, hbel⟩
        have LW2nhp0 := hp0.lt; have LW2nhp1 := hp1.lt; have LW2nhp2 := hp2.lt; have SW2n := hbel.size
        obtain ⟨⟨c0_0, c0_1, c0_2⟩, fz0⟩ := id hp0
        obtain ⟨⟨c1_0, c1_1, c1_2⟩, fz1⟩ := id hp1
        obtain ⟨⟨c2_0, c2_1, c2_2, c2_3⟩, fz2⟩ := id hp2
        go_wp2_with fail
        refine (c_spec_l01Inner ha hc _).mono ?_
        rintro e W3c ⟨⟨r3, rfl, hv3⟩, hb⟩
        clear c0_0 c0_1 c0_2 c1_0 c1_1 c1_2 c2_0 c2_1 c2_2 c2_3 fz0 fz1 fz2
        replace hp0 := hp0.below hb
        replace hp1 := hp1.below hb
        replace hp2 := hp2.below hb
        replace hbel := hbel.trans (hb.mono hbel.size)
        clear hb
        have LW3chp0 := hp0.lt; have LW3chp1 := hp1.lt; have LW3chp2 := hp2.lt; have SW3c := hbel.size
        obtain ⟨⟨c0_0, c0_1, c0_2⟩, fz0⟩ := id hp0
        obtain ⟨⟨c1_0, c1_1, c1_2⟩, fz1⟩ := id hp1
        obtain ⟨⟨c2_0, c2_1, c2_2, c2_3⟩, fz2⟩ := id hp2
        go_wp2_with fail
        (with_reducible apply upon_float_bin); exact rfl; exact hv1_13; exact hv3; intro r4 n4 hv4; (try rw [World.drewN_drewN]); simp only [Act.put, List.setIfInBounds_toArray, List.set_cons_zero, List.set_cons_succ]
        go_upto_region 3 with fail
        refine wp_name (fun wr => HasF3 wr w.heap.size ax ay az ∧ HasF3 wr (w.heap.size + 1) cx cy cz ∧ HasF4 wr (w.heap.size + 2) 0 0 0 0 ∧ Below w.heap.size w wr) ⟨by (repeat (first | assumption | (refine HasF3.set ?_ _ _ (by first | omega | (simp; try omega))) | (refine HasF4.set ?_ _ _ (by first | omega | (simp; try omega))) | (refine HasF3.alloc ?_ _) | (refine HasF4.alloc ?_ _) | (refine HasF3.drewN ?_ _) | (refine HasF4.drewN ?_ _))), by (repeat (first | assumption | (refine HasF3.set ?_ _ _ (by first | omega | (simp; try omega))) | (refine HasF4.set ?_ _ _ (by first | omega | (simp; try omega))) | (refine HasF3.alloc ?_ _) | (refine HasF4.alloc ?_ _) | (refine HasF3.drewN ?_ _) | (refine HasF4.drewN ?_ _))), by (repeat (first | assumption | (refine HasF3.set ?_ _ _ (by first | omega | (simp; try omega))) | (refine HasF4.set ?_ _ _ (by first | omega | (simp; try omega))) | (refine HasF3.alloc ?_ _) | (refine HasF4.alloc ?_ _) | (refine HasF3.drewN ?_ _) | (refine HasF4.drewN ?_ _))), by (repeat (first | exact Below.refl _ _ | (refine below_drewN ?_ _) | (refine Below.drew ?_) | (refine Below.setCell ?_ (by first | omega | (simp; try omega)) _) | (refine Below.alloc ?_ (by first | omega | (simp; try omega)) _) | (refine Below.trans ?_ (Below.mono (by assumption) (by first | omega | (simp; try omega))))))⟩ ?_
        clear hbel hp0 hp1 hp2 c0_0 c0_1 c0_2 c1_0 c1_1 c1_2 c2_0 c2_1 c2_2 c2_3 fz0 fz1 fz2
        rintro W5n ⟨hp0, hp1, hp2, hbel⟩
        have LW5nhp0 := hp0.lt; have LW5nhp1 := hp1.lt; have LW5nhp2 := hp2.lt; have SW5n := hbel.size
        obtain ⟨⟨c0_0, c0_1, c0_2⟩, fz0⟩ := id hp0
        obtain ⟨⟨c1_0, c1_1, c1_2⟩, fz1⟩ := id hp1
        obtain ⟨⟨c2_0, c2_1, c2_2, c2_3⟩, fz2⟩ := id hp2
        go_wp2_with fail
        (with_reducible apply upon_float_bin); exact rfl; exact hv1_13; exact (fvc rfl : Fv .f32 1149239296 (some 1149239296)); intro r6 n6 hv6; (try rw [World.drewN_drewN]); simp only [Act.put, List.setIfInBounds_toArray, List.set_cons_zero, List.set_cons_succ]
        have hq7 : (FloatKind.f32.format.order r4 r6 == some .gt) = false := by rw [order_fv hv4 hv6]; exact q1
        go_upto_region 6 with fail
        refine wp_name (fun wr => HasF3 wr w.heap.size ax ay az ∧ HasF3 wr (w.heap.size + 1) cx cy cz ∧ HasF4 wr (w.heap.size + 2) 0 0 0 0 ∧ Below w.heap.size w wr) ⟨by (repeat (first | assumption | (refine HasF3.set ?_ _ _ (by first | omega | (simp; try omega))) | (refine HasF4.set ?_ _ _ (by first | omega | (simp; try omega))) | (refine HasF3.alloc ?_ _) | (refine HasF4.alloc ?_ _) | (refine HasF3.drewN ?_ _) | (refine HasF4.drewN ?_ _))), by (repeat (first | assumption | (refine HasF3.set ?_ _ _ (by first | omega | (simp; try omega))) | (refine HasF4.set ?_ _ _ (by first | omega | (simp; try omega))) | (refine HasF3.alloc ?_ _) | (refine HasF4.alloc ?_ _) | (refine HasF3.drewN ?_ _) | (refine HasF4.drewN ?_ _))), by (repeat (first | assumption | (refine HasF3.set ?_ _ _ (by first | omega | (simp; try omega))) | (refine HasF4.set ?_ _ _ (by first | omega | (simp; try omega))) | (refine HasF3.alloc ?_ _) | (refine HasF4.alloc ?_ _) | (refine HasF3.drewN ?_ _) | (refine HasF4.drewN ?_ _))), by (repeat (first | exact Below.refl _ _ | (refine below_drewN ?_ _) | (refine Below.drew ?_) | (refine Below.setCell ?_ (by first | omega | (simp; try omega)) _) | (refine Below.alloc ?_ (by first | omega | (simp; try omega)) _) | (refine Below.trans ?_ (Below.mono (by assumption) (by first | omega | (simp; try omega))))))⟩ ?_
        clear hbel hp0 hp1 hp2 c0_0 c0_1 c0_2 c1_0 c1_1 c1_2 c2_0 c2_1 c2_2 c2_3 fz0 fz1 fz2
        rintro W8n ⟨hp0, hp1, hp2, hbel⟩
        have LW8nhp0 := hp0.lt; have LW8nhp1 := hp1.lt; have LW8nhp2 := hp2.lt; have SW8n := hbel.size
        obtain ⟨⟨c0_0, c0_1, c0_2⟩, fz0⟩ := id hp0
        obtain ⟨⟨c1_0, c1_1, c1_2⟩, fz1⟩ := id hp1
        obtain ⟨⟨c2_0, c2_1, c2_2, c2_3⟩, fz2⟩ := id hp2
        go_wp2_with fail
        refine (c_spec_l01Cross ha (⟨(fvc rfl : Fv .f32 1065353216 (some 1065353216)), (fvc rfl : Fv .f32 0 (some 0)), (fvc rfl : Fv .f32 0 (some 0))⟩ : Fv3 1065353216 0 0 ⟨some 1065353216, some 0, some 0⟩) _).mono ?_
        rintro e W9c ⟨⟨x9, y9, z9, rfl, hv9⟩, hb⟩
        clear c0_0 c0_1 c0_2 c1_0 c1_1 c1_2 c2_0 c2_1 c2_2 c2_3 fz0 fz1 fz2
        replace hp0 := hp0.below hb
        replace hp1 := hp1.below hb
        replace hp2 := hp2.below hb
        replace hbel := hbel.trans (hb.mono hbel.size)
        clear hb
        have LW9chp0 := hp0.lt; have LW9chp1 := hp1.lt; have LW9chp2 := hp2.lt; have SW9c := hbel.size
        obtain ⟨⟨c0_0, c0_1, c0_2⟩, fz0⟩ := id hp0
        obtain ⟨⟨c1_0, c1_1, c1_2⟩, fz1⟩ := id hp1
        obtain ⟨⟨c2_0, c2_1, c2_2, c2_3⟩, fz2⟩ := id hp2
        go_upto_region 7 with fail
        refine wp_name (fun wr => HasF3 wr w.heap.size ax ay az ∧ HasF3 wr (w.heap.size + 1) cx cy cz ∧ HasF4 wr (w.heap.size + 2) 0 0 0 0 ∧ HasF3 wr W9c.heap.size x9 y9 z9 ∧ Below w.heap.size w wr) ⟨by (repeat (first | assumption | (refine HasF3.set ?_ _ _ (by first | omega | (simp; try omega))) | (refine HasF4.set ?_ _ _ (by first | omega | (simp; try omega))) | (refine HasF3.alloc ?_ _) | (refine HasF4.alloc ?_ _) | (refine HasF3.drewN ?_ _) | (refine HasF4.drewN ?_ _))), by (repeat (first | assumption | (refine HasF3.set ?_ _ _ (by first | omega | (simp; try omega))) | (refine HasF4.set ?_ _ _ (by first | omega | (simp; try omega))) | (refine HasF3.alloc ?_ _) | (refine HasF4.alloc ?_ _) | (refine HasF3.drewN ?_ _) | (refine HasF4.drewN ?_ _))), by (repeat (first | assumption | (refine HasF3.set ?_ _ _ (by first | omega | (simp; try omega))) | (refine HasF4.set ?_ _ _ (by first | omega | (simp; try omega))) | (refine HasF3.alloc ?_ _) | (refine HasF4.alloc ?_ _) | (refine HasF3.drewN ?_ _) | (refine HasF4.drewN ?_ _))), ⟨⟨by first | simp | go_simp, by first | simp | go_simp, by first | simp | go_simp⟩, fun o => by simp [*]⟩, by (repeat (first | exact Below.refl _ _ | (refine below_drewN ?_ _) | (refine Below.drew ?_) | (refine Below.setCell ?_ (by first | omega | (simp; try omega)) _) | (refine Below.alloc ?_ (by first | omega | (simp; try omega)) _) | (refine Below.trans ?_ (Below.mono (by assumption) (by first | omega | (simp; try omega))))))⟩ ?_
        clear hbel hp0 hp1 hp2 c0_0 c0_1 c0_2 c1_0 c1_1 c1_2 c2_0 c2_1 c2_2 c2_3 fz0 fz1 fz2
        rintro W10n ⟨hp0, hp1, hp2, hp3, hbel⟩
        have LW10nhp0 := hp0.lt; have LW10nhp1 := hp1.lt; have LW10nhp2 := hp2.lt; have LW10nhp3 := hp3.lt; have SW10n := hbel.size
        refine wp_region_drawn [(38, isV (vec x9 y9 z9)), (39, isFlt .f32 (longC (crossC (Ca) ((⟨some 1065353216, some 0, some 0⟩ : V3))))), (40, isV (vec ax ay az)), (41, isFlt .f32 (longC (Ca))), (42, isFlt .f32 (D (longC (Ca)) (some 1149239296))), (43, isV (.bool (leB (longC (crossC (Ca) ((⟨some 1065353216, some 0, some 0⟩ : V3)))) (D (longC (Ca)) (some 1149239296)))))]
          (fun wr => HasF3 wr w.heap.size ax ay az ∧ HasF3 wr (w.heap.size + 1) cx cy cz ∧ HasF4 wr (w.heap.size + 2) 0 0 0 0 ∧ HasF3 wr W9c.heap.size x9 y9 z9 ∧ Below W10n.heap.size W10n wr)
          (by kernel_rfl) (by kernel_rfl) (by kernel_rfl) (by kernel_rfl) (Nat.le_of_ble_eq_true (by kernel_rfl)) (by kernel_rfl) ?_ (fun _ _ hb h => ⟨h.1.below hb, h.2.1.below hb, h.2.2.1.below hb, h.2.2.2.1.below hb, h.2.2.2.2.trans (hb.mono h.2.2.2.2.size)⟩) ⟨hp0, hp1, hp2, hp3, (Below.refl _ _).drew⟩ ?_ ?_
        · intro p hp
          simp only [List.mem_cons, List.not_mem_nil, or_false] at hp
          rcases hp with rfl | rfl | rfl | rfl | rfl | rfl <;> first | exact mono_isV _ | exact mono_isVec _ | exact mono_isTurn _ | exact mono_isFlt _ _ | exact mono_isOwn3 _ | exact mono_isOwn4 _
        · intro i o hi ho f w1 hI hdep
          simp only [List.map_cons, List.map_nil, mix, List.contains_cons, List.contains_nil, Nat.reduceBEq, Bool.or_true, Bool.or_false, Bool.false_eq_true, if_true, if_false, Nat.reduceAdd, Nat.zero_add]
          have hcase : i = 0 ∨ i = 1 ∨ i = 2 ∨ i = 3 ∨ i = 4 ∨ i = 5 := by simp at hi; omega
          obtain ⟨⟨⟨c0_0, c0_1, c0_2⟩, fz0⟩, ⟨⟨c1_0, c1_1, c1_2⟩, fz1⟩, ⟨⟨c2_0, c2_1, c2_2, c2_3⟩, fz2⟩, ⟨⟨c3_0, c3_1, c3_2⟩, fz3⟩, hb1⟩ := hI
          have hsz := hb1.size
          rcases hcase with rfl | rfl | rfl | rfl | rfl | rfl
          · obtain rfl := Option.some.inj ho
            clear hdep ho hi
            generalize f 38 = v38 at *; generalize f 39 = v39 at *; generalize f 40 = v40 at *; generalize f 41 = v41 at *; generalize f 42 = v42 at *; generalize f 43 = v43 at *
            refine wpOp_step rfl (fun K hK => ?_)
            go_simp
            exact hK _ _ ⟨_, rfl, (fun p hp => by cases hp; rfl), Below.refl _ _⟩
          · obtain rfl := Option.some.inj ho
            have e0 : f 38 = (vec x9 y9 z9) := hdep ⟨0, .data⟩ (by simp) rfl
            clear hdep ho hi
            generalize f 38 = v38 at *; generalize f 39 = v39 at *; generalize f 40 = v40 at *; generalize f 41 = v41 at *; generalize f 42 = v42 at *; generalize f 43 = v43 at *
            subst e0
            refine wpOp_step rfl (fun K hK => ?_)
            go_simp
            refine (c_spec_l01Long hv9 _).mono ?_
            rintro e w' ⟨⟨y0, rfl, hv⟩, hb⟩
            exact hK _ _ ⟨_, rfl, (fun p hp => by cases hp; exact ⟨_, rfl, hv⟩), hb⟩
          · obtain rfl := Option.some.inj ho
            clear hdep ho hi
            generalize f 38 = v38 at *; generalize f 39 = v39 at *; generalize f 40 = v40 at *; generalize f 41 = v41 at *; generalize f 42 = v42 at *; generalize f 43 = v43 at *
            refine wpOp_step rfl (fun K hK => ?_)
            go_simp
            exact hK _ _ ⟨_, rfl, (fun p hp => by cases hp; rfl), Below.refl _ _⟩
          · obtain rfl := Option.some.inj ho
            have e2 : f 40 = (vec ax ay az) := hdep ⟨2, .data⟩ (by simp) rfl
            clear hdep ho hi
            generalize f 38 = v38 at *; generalize f 39 = v39 at *; generalize f 40 = v40 at *; generalize f 41 = v41 at *; generalize f 42 = v42 at *; generalize f 43 = v43 at *
            subst e2
            refine wpOp_step rfl (fun K hK => ?_)
            go_simp
            refine (c_spec_l01Long ha _).mono ?_
            rintro e w' ⟨⟨y0, rfl, hv⟩, hb⟩
            exact hK _ _ ⟨_, rfl, (fun p hp => by cases hp; exact ⟨_, rfl, hv⟩), hb⟩
          · obtain rfl := Option.some.inj ho
            obtain ⟨r3, e3, hv3⟩ : isFlt _ _ (f 41) w1 := hdep ⟨3, .data⟩ (by simp) rfl
            clear hdep ho hi
            generalize f 38 = v38 at *; generalize f 39 = v39 at *; generalize f 40 = v40 at *; generalize f 41 = v41 at *; generalize f 42 = v42 at *; generalize f 43 = v43 at *
            subst e3
            refine wpOp_step rfl (fun K hK => ?_)
            go_simp
            (with_reducible apply upon_float_bin); exact rfl; exact hv3; exact (fvc rfl : Fv .f32 1149239296 (some 1149239296)); intro r n hr
            exact hK _ _ ⟨_, rfl, (fun p hp => by cases hp; exact ⟨_, rfl, hr⟩), below_drewN (Below.refl _ _) _⟩
          · obtain rfl := Option.some.inj ho
            obtain ⟨r1, e1, hv1⟩ : isFlt _ _ (f 39) w1 := hdep ⟨1, .data⟩ (by simp) rfl
            obtain ⟨r4, e4, hv4⟩ : isFlt _ _ (f 42) w1 := hdep ⟨4, .data⟩ (by simp) rfl
            clear hdep ho hi
            generalize f 38 = v38 at *; generalize f 39 = v39 at *; generalize f 40 = v40 at *; generalize f 41 = v41 at *; generalize f 42 = v42 at *; generalize f 43 = v43 at *
            subst e1 e4
            refine wpOp_step rfl (fun K hK => ?_)
            go_simp
            exact hK _ _ ⟨_, rfl, (fun p hp => by cases hp; exact congrArg Value.bool (by unfold leB; rw [order_fv hv1 hv4])), Below.refl _ _⟩
        · intro f w1 hI hF
          simp only [List.map_cons, List.map_nil, mix, List.contains_cons, List.contains_nil, Nat.reduceBEq, Bool.or_true, Bool.or_false, Bool.false_eq_true, if_true, if_false, Nat.reduceAdd, Nat.zero_add]
          obtain ⟨hp0, hp1, hp2, hp3, hb1⟩ := hI
          have hsz := hb1.size
          replace hbel := hbel.trans (hb1.mono hbel.size)
          have e5 : f 43 = (.bool (leB (longC (crossC (Ca) ((⟨some 1065353216, some 0, some 0⟩ : V3)))) (D (longC (Ca)) (some 1149239296)))) := hF 5 (by simp)
          rw [(show leB (longC (crossC (Ca) ((⟨some 1065353216, some 0, some 0⟩ : V3)))) (D (longC (Ca)) (some 1149239296)) = false from q2)] at e5
          clear hF
          generalize f 38 = v38 at *; generalize f 39 = v39 at *; generalize f 40 = v40 at *; generalize f 41 = v41 at *; generalize f 42 = v42 at *; generalize f 43 = v43 at *
          subst e5
          have Lw11hp0 := hp0.lt; have Lw11hp1 := hp1.lt; have Lw11hp2 := hp2.lt; have Lw11hp3 := hp3.lt
          obtain ⟨⟨c0_0, c0_1, c0_2⟩, fz0⟩ := id hp0
          obtain ⟨⟨c1_0, c1_1, c1_2⟩, fz1⟩ := id hp1
          obtain ⟨⟨c2_0, c2_1, c2_2, c2_3⟩, fz2⟩ := id hp2
          obtain ⟨⟨c3_0, c3_1, c3_2⟩, fz3⟩ := id hp3
          refine wpAny_done (by kernel_rfl) ?_ _
          go_upto_region 9 with fail
          refine wp_name (fun wr => HasF3 wr w.heap.size ax ay az ∧ HasF3 wr (w.heap.size + 1) cx cy cz ∧ HasF4 wr (w.heap.size + 2) 0 0 0 0 ∧ HasF3 wr W9c.heap.size x9 y9 z9 ∧ Below w.heap.size w wr) ⟨by (repeat (first | assumption | (refine HasF3.set ?_ _ _ (by first | omega | (simp; try omega))) | (refine HasF4.set ?_ _ _ (by first | omega | (simp; try omega))) | (refine HasF3.alloc ?_ _) | (refine HasF4.alloc ?_ _) | (refine HasF3.drewN ?_ _) | (refine HasF4.drewN ?_ _))), by (repeat (first | assumption | (refine HasF3.set ?_ _ _ (by first | omega | (simp; try omega))) | (refine HasF4.set ?_ _ _ (by first | omega | (simp; try omega))) | (refine HasF3.alloc ?_ _) | (refine HasF4.alloc ?_ _) | (refine HasF3.drewN ?_ _) | (refine HasF4.drewN ?_ _))), by (repeat (first | assumption | (refine HasF3.set ?_ _ _ (by first | omega | (simp; try omega))) | (refine HasF4.set ?_ _ _ (by first | omega | (simp; try omega))) | (refine HasF3.alloc ?_ _) | (refine HasF4.alloc ?_ _) | (refine HasF3.drewN ?_ _) | (refine HasF4.drewN ?_ _))), by (repeat (first | assumption | (refine HasF3.set ?_ _ _ (by first | omega | (simp; try omega))) | (refine HasF4.set ?_ _ _ (by first | omega | (simp; try omega))) | (refine HasF3.alloc ?_ _) | (refine HasF4.alloc ?_ _) | (refine HasF3.drewN ?_ _) | (refine HasF4.drewN ?_ _))), by (repeat (first | exact Below.refl _ _ | (refine below_drewN ?_ _) | (refine Below.drew ?_) | (refine Below.setCell ?_ (by first | omega | (simp; try omega)) _) | (refine Below.alloc ?_ (by first | omega | (simp; try omega)) _) | (refine Below.trans ?_ (Below.mono (by assumption) (by first | omega | (simp; try omega))))))⟩ ?_
          clear hbel hb1 hsz hp0 hp1 hp2 hp3 c0_0 c0_1 c0_2 c1_0 c1_1 c1_2 c2_0 c2_1 c2_2 c2_3 c3_0 c3_1 c3_2 fz0 fz1 fz2 fz3
          rintro W12n ⟨hp0, hp1, hp2, hp3, hbel⟩
          have LW12nhp0 := hp0.lt; have LW12nhp1 := hp1.lt; have LW12nhp2 := hp2.lt; have LW12nhp3 := hp3.lt; have SW12n := hbel.size
          obtain ⟨⟨c0_0, c0_1, c0_2⟩, fz0⟩ := id hp0
          obtain ⟨⟨c1_0, c1_1, c1_2⟩, fz1⟩ := id hp1
          obtain ⟨⟨c2_0, c2_1, c2_2, c2_3⟩, fz2⟩ := id hp2
          obtain ⟨⟨c3_0, c3_1, c3_2⟩, fz3⟩ := id hp3
          go_wp2_with fail
          refine (c_spec_l02Mend (⟨(fvc rfl : Fv .f32 0 (some 0)), hv9.x, hv9.y, hv9.z⟩ : Fv4 0 x9 y9 z9 ⟨some 0, (crossC (Ca) ((⟨some 1065353216, some 0, some 0⟩ : V3))).x, (crossC (Ca) ((⟨some 1065353216, some 0, some 0⟩ : V3))).y, (crossC (Ca) ((⟨some 1065353216, some 0, some 0⟩ : V3))).z⟩) _).mono ?_
          rintro e W13c ⟨⟨w13, x13, y13, z13, rfl, hv13⟩, hb⟩
          clear c0_0 c0_1 c0_2 c1_0 c1_1 c1_2 c2_0 c2_1 c2_2 c2_3 c3_0 c3_1 c3_2 fz0 fz1 fz2 fz3
          replace hp0 := hp0.below hb
          replace hp1 := hp1.below hb
          replace hp2 := hp2.below hb
          replace hp3 := hp3.below hb
          replace hbel := hbel.trans (hb.mono hbel.size)
          clear hb
          have LW13chp0 := hp0.lt; have LW13chp1 := hp1.lt; have LW13chp2 := hp2.lt; have LW13chp3 := hp3.lt; have SW13c := hbel.size
          obtain ⟨⟨c0_0, c0_1, c0_2⟩, fz0⟩ := id hp0
          obtain ⟨⟨c1_0, c1_1, c1_2⟩, fz1⟩ := id hp1
          obtain ⟨⟨c2_0, c2_1, c2_2, c2_3⟩, fz2⟩ := id hp2
          obtain ⟨⟨c3_0, c3_1, c3_2⟩, fz3⟩ := id hp3
          go_wp2_with fail
          apply ret_turn; exact hv13.w; exact hv13.x; exact hv13.y; exact hv13.z; simp [results, Try.results43, go_sem, *]; rfl; (repeat (first | exact Below.refl _ _ | (refine below_drewN ?_ _) | (refine Below.drew ?_) | (refine Below.setCell ?_ (by first | omega | (simp; try omega)) _) | (refine Below.alloc ?_ (by first | omega | (simp; try omega)) _) | (refine Below.trans ?_ (Below.mono (by assumption) (by first | omega | (simp; try omega))))))
    | true =>
      have hcls : tbC Ca Cc = mendC (turnC (some 0) (crossC Ca eyC)) := by unfold tbC; simp [q1, q2]
      rw [hcls]; clear hcls
      go_enter Try.func43, Try.ntmps43
      go_upto_region 1 with fail
      refine wp_name (fun wr => HasF3 wr w.heap.size ax ay az ∧ HasF3 wr (w.heap.size + 1) cx cy cz ∧ HasF4 wr (w.heap.size + 2) 0 0 0 0 ∧ Below w.heap.size w wr) ⟨⟨⟨by go_simp, by go_simp, by go_simp⟩, fun o => by go_simp⟩, ⟨⟨by go_simp, by go_simp, by go_simp⟩, fun o => by go_simp⟩, ⟨⟨by go_simp, by go_simp, by go_simp, by go_simp⟩, fun o => by go_simp⟩, by (repeat (first | exact Below.refl _ _ | (refine below_drewN ?_ _) | (refine Below.drew ?_) | (refine Below.setCell ?_ (by first | omega | (simp; try omega)) _) | (refine Below.alloc ?_ (by first | omega | (simp; try omega)) _) | (refine Below.trans ?_ (Below.mono (by assumption) (by first | omega | (simp; try omega))))))⟩ ?_
      rintro W1 ⟨hp0, hp1, hp2, hbel⟩
      have LW1hp0 := hp0.lt; have LW1hp1 := hp1.lt; have LW1hp2 := hp2.lt; have SW1 := hbel.size
      refine wp_region_drawn [(9, isV (vec ax ay az)), (10, isFlt .f32 (longC (Ca))), (11, isV (vec cx cy cz)), (12, isFlt .f32 (longC (Cc))), (13, isFlt .f32 (M (longC (Ca)) (longC (Cc))))]
        (fun wr => HasF3 wr w.heap.size ax ay az ∧ HasF3 wr (w.heap.size + 1) cx cy cz ∧ HasF4 wr (w.heap.size + 2) 0 0 0 0 ∧ Below W1.heap.size W1 wr)
        (by kernel_rfl) (by kernel_rfl) (by kernel_rfl) (by kernel_rfl) (Nat.le_of_ble_eq_true (by kernel_rfl)) (by kernel_rfl) ?_ (fun _ _ hb h => ⟨h.1.below hb, h.2.1.below hb, h.2.2.1.below hb, h.2.2.2.trans (hb.mono h.2.2.2.size)⟩) ⟨hp0, hp1, hp2, (Below.refl _ _).drew⟩ ?_ ?_
      · intro p hp
        simp only [List.mem_cons, List.not_mem_nil, or_false] at hp
        rcases hp with rfl | rfl | rfl | rfl | rfl <;> first | exact mono_isV _ | exact mono_isVec _ | exact mono_isTurn _ | exact mono_isFlt _ _ | exact mono_isOwn3 _ | exact mono_isOwn4 _
      · intro i o hi ho f w1 hI hdep
        simp only [List.map_cons, List.map_nil, mix, List.contains_cons, List.contains_nil, Nat.reduceBEq, Bool.or_true, Bool.or_false, Bool.false_eq_true, if_true, if_false, Nat.reduceAdd, Nat.zero_add]
        have hcase : i = 0 ∨ i = 1 ∨ i = 2 ∨ i = 3 ∨ i = 4 := by simp at hi; omega
        obtain ⟨⟨⟨c0_0, c0_1, c0_2⟩, fz0⟩, ⟨⟨c1_0, c1_1, c1_2⟩, fz1⟩, ⟨⟨c2_0, c2_1, c2_2, c2_3⟩, fz2⟩, hb1⟩ := hI
        have hsz := hb1.size
        rcases hcase with rfl | rfl | rfl | rfl | rfl
        · obtain rfl := Option.some.inj ho
          clear hdep ho hi
          generalize f 9 = v9 at *; generalize f 10 = v10 at *; generalize f 11 = v11 at *; generalize f 12 = v12 at *; generalize f 13 = v13 at *
          refine wpOp_step rfl (fun K hK => ?_)
          go_simp
          exact hK _ _ ⟨_, rfl, (fun p hp => by cases hp; rfl), Below.refl _ _⟩
        · obtain rfl := Option.some.inj ho
          have e0 : f 9 = (vec ax ay az) := hdep ⟨0, .data⟩ (by simp) rfl
          clear hdep ho hi
          generalize f 9 = v9 at *; generalize f 10 = v10 at *; generalize f 11 = v11 at *; generalize f 12 = v12 at *; generalize f 13 = v13 at *
          subst e0
          refine wpOp_step rfl (fun K hK => ?_)
          go_simp
          refine (c_spec_l01Long ha _).mono ?_
          rintro e w' ⟨⟨y0, rfl, hv⟩, hb⟩
          exact hK _ _ ⟨_, rfl, (fun p hp => by cases hp; exact ⟨_, rfl, hv⟩), hb⟩
        · obtain rfl := Option.some.inj ho
          clear hdep ho hi
          generalize f 9 = v9 at *; generalize f 10 = v10 at *; generalize f 11 = v11 at *; generalize f 12 = v12 at *; generalize f 13 = v13 at *
          refine wpOp_step rfl (fun K hK => ?_)
          go_simp
          exact hK _ _ ⟨_, rfl, (fun p hp => by cases hp; rfl), Below.refl _ _⟩
        · obtain rfl := Option.some.inj ho
          have e2 : f 11 = (vec cx cy cz) := hdep ⟨2, .data⟩ (by simp) rfl
          clear hdep ho hi
          generalize f 9 = v9 at *; generalize f 10 = v10 at *; generalize f 11 = v11 at *; generalize f 12 = v12 at *; generalize f 13 = v13 at *
          subst e2
          refine wpOp_step rfl (fun K hK => ?_)
          go_simp
          refine (c_spec_l01Long hc _).mono ?_
          rintro e w' ⟨⟨y0, rfl, hv⟩, hb⟩
          exact hK _ _ ⟨_, rfl, (fun p hp => by cases hp; exact ⟨_, rfl, hv⟩), hb⟩
        · obtain rfl := Option.some.inj ho
          obtain ⟨r1, e1, hv1⟩ : isFlt _ _ (f 10) w1 := hdep ⟨1, .data⟩ (by simp) rfl
          obtain ⟨r3, e3, hv3⟩ : isFlt _ _ (f 12) w1 := hdep ⟨3, .data⟩ (by simp) rfl
          clear hdep ho hi
          generalize f 9 = v9 at *; generalize f 10 = v10 at *; generalize f 11 = v11 at *; generalize f 12 = v12 at *; generalize f 13 = v13 at *
          subst e1 e3
          refine wpOp_step rfl (fun K hK => ?_)
          go_simp
          (with_reducible apply upon_float_bin); exact rfl; exact hv1; exact hv3; intro r n hr
          exact hK _ _ ⟨_, rfl, (fun p hp => by cases hp; exact ⟨_, rfl, hr⟩), below_drewN (Below.refl _ _) _⟩
      · intro f w1 hI hF
        simp only [List.map_cons, List.map_nil, mix, List.contains_cons, List.contains_nil, Nat.reduceBEq, Bool.or_true, Bool.or_false, Bool.false_eq_true, if_true, if_false, Nat.reduceAdd, Nat.zero_add]
        obtain ⟨hp0, hp1, hp2, hb1⟩ := hI
        have hsz := hb1.size
        replace hbel := hbel.trans (hb1.mono hbel.size)
        obtain ⟨r1_13, e4, hv1_13⟩ : isFlt _ _ (f 13) w1 := hF 4 (by simp)
        clear hF
        generalize f 9 = v9 at *; generalize f 10 = v10 at *; generalize f 11 = v11 at *; generalize f 12 = v12 at *; generalize f 13 = v13 at *
        subst e4
        have Lw1hp0 := hp0.lt; have Lw1hp1 := hp1.lt; have Lw1hp2 := hp2.lt
        obtain ⟨⟨c0_0, c0_1, c0_2⟩, fz0⟩ := id hp0
        obtain ⟨⟨c1_0, c1_1, c1_2⟩, fz1⟩ := id hp1
        obtain ⟨⟨c2_0, c2_1, c2_2, c2_3⟩, fz2⟩ := id hp2
        change wpAny _ _ _ _ (0 + 1) _ _ _
        refine wpAny_all (rs := [5]) (by kernel_rfl) (by simp) ?_
        intro i hi
        obtain rfl : i = 5 := by simpa using hi
        clear hi
        refine wpOp_step rfl (fun K hK => ?_)
        go_simp
        refine hK _ _ (wpAny_done (by kernel_rfl) ?_ _)
        clear hK K
        go_upto_region 2 with fail
        refine wp_name (fun wr => HasF3 wr w.heap.size ax ay az ∧ HasF3 wr (w.heap.size + 1) cx cy cz ∧ HasF4 wr (w.heap.size + 2) 0 0 0 0 ∧ Below w.heap.size w wr) ⟨by (repeat (first | assumption | (refine HasF3.set ?_ _ _ (by first | omega | (simp; try omega))) | (refine HasF4.set ?_ _ _ (by first | omega | (simp; try omega))) | (refine HasF3.alloc ?_ _) | (refine HasF4.alloc ?_ _) | (refine HasF3.drewN ?_ _) | (refine HasF4.drewN ?_ _))), by (repeat (first | assumption | (refine HasF3.set ?_ _ _ (by first | omega | (simp; try omega))) | (refine HasF4.set ?_ _ _ (by first | omega | (simp; try omega))) | (refine HasF3.alloc ?_ _) | (refine HasF4.alloc ?_ _) | (refine HasF3.drewN ?_ _) | (refine HasF4.drewN ?_ _))), by (repeat (first | assumption | (refine HasF3.set ?_ _ _ (by first | omega | (simp; try omega))) | (refine HasF4.set ?_ _ _ (by first | omega | (simp; try omega))) | (refine HasF3.alloc ?_ _) | (refine HasF4.alloc ?_ _) | (refine HasF3.drewN ?_ _) | (refine HasF4.drewN ?_ _))), by (repeat (first | exact Below.refl _ _ | (refine below_drewN ?_ _) | (refine Below.drew ?_) | (refine Below.setCell ?_ (by first | omega | (simp; try omega)) _) | (refine Below.alloc ?_ (by first | omega | (simp; try omega)) _) | (refine Below.trans ?_ (Below.mono (by assumption) (by first | omega | (simp; try omega))))))⟩ ?_
        clear hbel hb1 hsz hp0 hp1 hp2 c0_0 c0_1 c0_2 c1_0 c1_1 c1_2 c2_0 c2_1 c2_2 c2_3 fz0 fz1 fz2
        rintro W2n ⟨hp0, hp1, hp2, hbel⟩
        have LW2nhp0 := hp0.lt; have LW2nhp1 := hp1.lt; have LW2nhp2 := hp2.lt; have SW2n := hbel.size
        obtain ⟨⟨c0_0, c0_1, c0_2⟩, fz0⟩ := id hp0
        obtain ⟨⟨c1_0, c1_1, c1_2⟩, fz1⟩ := id hp1
        obtain ⟨⟨c2_0, c2_1, c2_2, c2_3⟩, fz2⟩ := id hp2
        go_wp2_with fail
        refine (c_spec_l01Inner ha hc _).mono ?_
        rintro e W3c ⟨⟨r3, rfl, hv3⟩, hb⟩
        clear c0_0 c0_1 c0_2 c1_0 c1_1 c1_2 c2_0 c2_1 c2_2 c2_3 fz0 fz1 fz2
        replace hp0 := hp0.below hb
        replace hp1 := hp1.below hb
        replace hp2 := hp2.below hb
        replace hbel := hbel.trans (hb.mono hbel.size)
        clear hb
        have LW3chp0 := hp0.lt; have LW3chp1 := hp1.lt; have LW3chp2 := hp2.lt; have SW3c := hbel.size
        obtain ⟨⟨c0_0, c0_1, c0_2⟩, fz0⟩ := id hp0
        obtain ⟨⟨c1_0, c1_1, c1_2⟩, fz1⟩ := id hp1
        obtain ⟨⟨c2_0, c2_1, c2_2, c2_3⟩, fz2⟩ := id hp2
        go_wp2_with fail
        (with_reducible apply upon_float_bin); exact rfl; exact hv1_13; exact hv3; intro r4 n4 hv4; (try rw [World.drewN_drewN]); simp only [Act.put, List.setIfInBounds_toArray, List.set_cons_zero, List.set_cons_succ]
        go_upto_region 3 with fail
        refine wp_name (fun wr => HasF3 wr w.heap.size ax ay az ∧ HasF3 wr (w.heap.size + 1) cx cy cz ∧ HasF4 wr (w.heap.size + 2) 0 0 0 0 ∧ Below w.heap.size w wr) ⟨by (repeat (first | assumption | (refine HasF3.set ?_ _ _ (by first | omega | (simp; try omega))) | (refine HasF4.set ?_ _ _ (by first | omega | (simp; try omega))) | (refine HasF3.alloc ?_ _) | (refine HasF4.alloc ?_ _) | (refine HasF3.drewN ?_ _) | (refine HasF4.drewN ?_ _))), by (repeat (first | assumption | (refine HasF3.set ?_ _ _ (by first | omega | (simp; try omega))) | (refine HasF4.set ?_ _ _ (by first | omega | (simp; try omega))) | (refine HasF3.alloc ?_ _) | (refine HasF4.alloc ?_ _) | (refine HasF3.drewN ?_ _) | (refine HasF4.drewN ?_ _))), by (repeat (first | assumption | (refine HasF3.set ?_ _ _ (by first | omega | (simp; try omega))) | (refine HasF4.set ?_ _ _ (by first | omega | (simp; try omega))) | (refine HasF3.alloc ?_ _) | (refine HasF4.alloc ?_ _) | (refine HasF3.drewN ?_ _) | (refine HasF4.drewN ?_ _))), by (repeat (first | exact Below.refl _ _ | (refine below_drewN ?_ _) | (refine Below.drew ?_) | (refine Below.setCell ?_ (by first | omega | (simp; try omega)) _) | (refine Below.alloc ?_ (by first | omega | (simp; try omega)) _) | (refine Below.trans ?_ (Below.mono (by assumption) (by first | omega | (simp; try omega))))))⟩ ?_
        clear hbel hp0 hp1 hp2 c0_0 c0_1 c0_2 c1_0 c1_1 c1_2 c2_0 c2_1 c2_2 c2_3 fz0 fz1 fz2
        rintro W5n ⟨hp0, hp1, hp2, hbel⟩
        have LW5nhp0 := hp0.lt; have LW5nhp1 := hp1.lt; have LW5nhp2 := hp2.lt; have SW5n := hbel.size
        obtain ⟨⟨c0_0, c0_1, c0_2⟩, fz0⟩ := id hp0
        obtain ⟨⟨c1_0, c1_1, c1_2⟩, fz1⟩ := id hp1
        obtain ⟨⟨c2_0, c2_1, c2_2, c2_3⟩, fz2⟩ := id hp2
        go_wp2_with fail
        (with_reducible apply upon_float_bin); exact rfl; exact hv1_13; exact (fvc rfl : Fv .f32 1149239296 (some 1149239296)); intro r6 n6 hv6; (try rw [World.drewN_drewN]); simp only [Act.put, List.setIfInBounds_toArray, List.set_cons_zero, List.set_cons_succ]
        have hq7 : (FloatKind.f32.format.order r4 r6 == some .gt) = false := by rw [order_fv hv4 hv6]; exact q1
        go_upto_region 6 with fail
        refine wp_name (fun wr => HasF3 wr w.heap.size ax ay az ∧ HasF3 wr (w.heap.size + 1) cx cy cz ∧ HasF4 wr (w.heap.size + 2) 0 0 0 0 ∧ Below w.heap.size w wr) ⟨by (repeat (first | assumption | (refine HasF3.set ?_ _ _ (by first | omega | (simp; try omega))) | (refine HasF4.set ?_ _ _ (by first | omega | (simp; try omega))) | (refine HasF3.alloc ?_ _) | (refine HasF4.alloc ?_ _) | (refine HasF3.drewN ?_ _) | (refine HasF4.drewN ?_ _))), by (repeat (first | assumption | (refine HasF3.set ?_ _ _ (by first | omega | (simp; try omega))) | (refine HasF4.set ?_ _ _ (by first | omega | (simp; try omega))) | (refine HasF3.alloc ?_ _) | (refine HasF4.alloc ?_ _) | (refine HasF3.drewN ?_ _) | (refine HasF4.drewN ?_ _))), by (repeat (first | assumption | (refine HasF3.set ?_ _ _ (by first | omega | (simp; try omega))) | (refine HasF4.set ?_ _ _ (by first | omega | (simp; try omega))) | (refine HasF3.alloc ?_ _) | (refine HasF4.alloc ?_ _) | (refine HasF3.drewN ?_ _) | (refine HasF4.drewN ?_ _))), by (repeat (first | exact Below.refl _ _ | (refine below_drewN ?_ _) | (refine Below.drew ?_) | (refine Below.setCell ?_ (by first | omega | (simp; try omega)) _) | (refine Below.alloc ?_ (by first | omega | (simp; try omega)) _) | (refine Below.trans ?_ (Below.mono (by assumption) (by first | omega | (simp; try omega))))))⟩ ?_
        clear hbel hp0 hp1 hp2 c0_0 c0_1 c0_2 c1_0 c1_1 c1_2 c2_0 c2_1 c2_2 c2_3 fz0 fz1 fz2
        rintro W8n ⟨hp0, hp1, hp2, hbel⟩
        have LW8nhp0 := hp0.lt; have LW8nhp1 := hp1.lt; have LW8nhp2 := hp2.lt; have SW8n := hbel.size
        obtain ⟨⟨c0_0, c0_1, c0_2⟩, fz0⟩ := id hp0
        obtain ⟨⟨c1_0, c1_1, c1_2⟩, fz1⟩ := id hp1
        obtain ⟨⟨c2_0, c2_1, c2_2, c2_3⟩, fz2⟩ := id hp2
        go_wp2_with fail
        refine (c_spec_l01Cross ha (⟨(fvc rfl : Fv .f32 1065353216 (some 1065353216)), (fvc rfl : Fv .f32 0 (some 0)), (fvc rfl : Fv .f32 0 (some 0))⟩ : Fv3 1065353216 0 0 ⟨some 1065353216, some 0, some 0⟩) _).mono ?_
        rintro e W9c ⟨⟨x9, y9, z9, rfl, hv9⟩, hb⟩
        clear c0_0 c0_1 c0_2 c1_0 c1_1 c1_2 c2_0 c2_1 c2_2 c2_3 fz0 fz1 fz2
        replace hp0 := hp0.below hb
        replace hp1 := hp1.below hb
        replace hp2 := hp2.below hb
        replace hbel := hbel.trans (hb.mono hbel.size)
        clear hb
        have LW9chp0 := hp0.lt; have LW9chp1 := hp1.lt; have LW9chp2 := hp2.lt; have SW9c := hbel.size
        obtain ⟨⟨c0_0, c0_1, c0_2⟩, fz0⟩ := id hp0
        obtain ⟨⟨c1_0, c1_1, c1_2⟩, fz1⟩ := id hp1
        obtain ⟨⟨c2_0, c2_1, c2_2, c2_3⟩, fz2⟩ := id hp2
        go_upto_region 7 with fail
        refine wp_name (fun wr => HasF3 wr w.heap.size ax ay az ∧ HasF3 wr (w.heap.size + 1) cx cy cz ∧ HasF4 wr (w.heap.size + 2) 0 0 0 0 ∧ HasF3 wr W9c.heap.size x9 y9 z9 ∧ Below w.heap.size w wr) ⟨by (repeat (first | assumption | (refine HasF3.set ?_ _ _ (by first | omega | (simp; try omega))) | (refine HasF4.set ?_ _ _ (by first | omega | (simp; try omega))) | (refine HasF3.alloc ?_ _) | (refine HasF4.alloc ?_ _) | (refine HasF3.drewN ?_ _) | (refine HasF4.drewN ?_ _))), by (repeat (first | assumption | (refine HasF3.set ?_ _ _ (by first | omega | (simp; try omega))) | (refine HasF4.set ?_ _ _ (by first | omega | (simp; try omega))) | (refine HasF3.alloc ?_ _) | (refine HasF4.alloc ?_ _) | (refine HasF3.drewN ?_ _) | (refine HasF4.drewN ?_ _))), by (repeat (first | assumption | (refine HasF3.set ?_ _ _ (by first | omega | (simp; try omega))) | (refine HasF4.set ?_ _ _ (by first | omega | (simp; try omega))) | (refine HasF3.alloc ?_ _) | (refine HasF4.alloc ?_ _) | (refine HasF3.drewN ?_ _) | (refine HasF4.drewN ?_ _))), ⟨⟨by first | simp | go_simp, by first | simp | go_simp, by first | simp | go_simp⟩, fun o => by simp [*]⟩, by (repeat (first | exact Below.refl _ _ | (refine below_drewN ?_ _) | (refine Below.drew ?_) | (refine Below.setCell ?_ (by first | omega | (simp; try omega)) _) | (refine Below.alloc ?_ (by first | omega | (simp; try omega)) _) | (refine Below.trans ?_ (Below.mono (by assumption) (by first | omega | (simp; try omega))))))⟩ ?_
        clear hbel hp0 hp1 hp2 c0_0 c0_1 c0_2 c1_0 c1_1 c1_2 c2_0 c2_1 c2_2 c2_3 fz0 fz1 fz2
        rintro W10n ⟨hp0, hp1, hp2, hp3, hbel⟩
        have LW10nhp0 := hp0.lt; have LW10nhp1 := hp1.lt; have LW10nhp2 := hp2.lt; have LW10nhp3 := hp3.lt; have SW10n := hbel.size
        refine wp_region_drawn [(38, isV (vec x9 y9 z9)), (39, isFlt .f32 (longC (crossC (Ca) ((⟨some 1065353216, some 0, some 0⟩ : V3))))), (40, isV (vec ax ay az)), (41, isFlt .f32 (longC (Ca))), (42, isFlt .f32 (D (longC (Ca)) (some 1149239296))), (43, isV (.bool (leB (longC (crossC (Ca) ((⟨some 1065353216, some 0, some 0⟩ : V3)))) (D (longC (Ca)) (some 1149239296)))))]
          (fun wr => HasF3 wr w.heap.size ax ay az ∧ HasF3 wr (w.heap.size + 1) cx cy cz ∧ HasF4 wr (w.heap.size + 2) 0 0 0 0 ∧ HasF3 wr W9c.heap.size x9 y9 z9 ∧ Below W10n.heap.size W10n wr)
          (by kernel_rfl) (by kernel_rfl) (by kernel_rfl) (by kernel_rfl) (Nat.le_of_ble_eq_true (by kernel_rfl)) (by kernel_rfl) ?_ (fun _ _ hb h => ⟨h.1.below hb, h.2.1.below hb, h.2.2.1.below hb, h.2.2.2.1.below hb, h.2.2.2.2.trans (hb.mono h.2.2.2.2.size)⟩) ⟨hp0, hp1, hp2, hp3, (Below.refl _ _).drew⟩ ?_ ?_
        · intro p hp
          simp only [List.mem_cons, List.not_mem_nil, or_false] at hp
          rcases hp with rfl | rfl | rfl | rfl | rfl | rfl <;> first | exact mono_isV _ | exact mono_isVec _ | exact mono_isTurn _ | exact mono_isFlt _ _ | exact mono_isOwn3 _ | exact mono_isOwn4 _
        · intro i o hi ho f w1 hI hdep
          simp only [List.map_cons, List.map_nil, mix, List.contains_cons, List.contains_nil, Nat.reduceBEq, Bool.or_true, Bool.or_false, Bool.false_eq_true, if_true, if_false, Nat.reduceAdd, Nat.zero_add]
          have hcase : i = 0 ∨ i = 1 ∨ i = 2 ∨ i = 3 ∨ i = 4 ∨ i = 5 := by simp at hi; omega
          obtain ⟨⟨⟨c0_0, c0_1, c0_2⟩, fz0⟩, ⟨⟨c1_0, c1_1, c1_2⟩, fz1⟩, ⟨⟨c2_0, c2_1, c2_2, c2_3⟩, fz2⟩, ⟨⟨c3_0, c3_1, c3_2⟩, fz3⟩, hb1⟩ := hI
          have hsz := hb1.size
          rcases hcase with rfl | rfl | rfl | rfl | rfl | rfl
          · obtain rfl := Option.some.inj ho
            clear hdep ho hi
            generalize f 38 = v38 at *; generalize f 39 = v39 at *; generalize f 40 = v40 at *; generalize f 41 = v41 at *; generalize f 42 = v42 at *; generalize f 43 = v43 at *
            refine wpOp_step rfl (fun K hK => ?_)
            go_simp
            exact hK _ _ ⟨_, rfl, (fun p hp => by cases hp; rfl), Below.refl _ _⟩
          · obtain rfl := Option.some.inj ho
            have e0 : f 38 = (vec x9 y9 z9) := hdep ⟨0, .data⟩ (by simp) rfl
            clear hdep ho hi
            generalize f 38 = v38 at *; generalize f 39 = v39 at *; generalize f 40 = v40 at *; generalize f 41 = v41 at *; generalize f 42 = v42 at *; generalize f 43 = v43 at *
            subst e0
            refine wpOp_step rfl (fun K hK => ?_)
            go_simp
            refine (c_spec_l01Long hv9 _).mono ?_
            rintro e w' ⟨⟨y0, rfl, hv⟩, hb⟩
            exact hK _ _ ⟨_, rfl, (fun p hp => by cases hp; exact ⟨_, rfl, hv⟩), hb⟩
          · obtain rfl := Option.some.inj ho
            clear hdep ho hi
            generalize f 38 = v38 at *; generalize f 39 = v39 at *; generalize f 40 = v40 at *; generalize f 41 = v41 at *; generalize f 42 = v42 at *; generalize f 43 = v43 at *
            refine wpOp_step rfl (fun K hK => ?_)
            go_simp
            exact hK _ _ ⟨_, rfl, (fun p hp => by cases hp; rfl), Below.refl _ _⟩
          · obtain rfl := Option.some.inj ho
            have e2 : f 40 = (vec ax ay az) := hdep ⟨2, .data⟩ (by simp) rfl
            clear hdep ho hi
            generalize f 38 = v38 at *; generalize f 39 = v39 at *; generalize f 40 = v40 at *; generalize f 41 = v41 at *; generalize f 42 = v42 at *; generalize f 43 = v43 at *
            subst e2
            refine wpOp_step rfl (fun K hK => ?_)
            go_simp
            refine (c_spec_l01Long ha _).mono ?_
            rintro e w' ⟨⟨y0, rfl, hv⟩, hb⟩
            exact hK _ _ ⟨_, rfl, (fun p hp => by cases hp; exact ⟨_, rfl, hv⟩), hb⟩
          · obtain rfl := Option.some.inj ho
            obtain ⟨r3, e3, hv3⟩ : isFlt _ _ (f 41) w1 := hdep ⟨3, .data⟩ (by simp) rfl
            clear hdep ho hi
            generalize f 38 = v38 at *; generalize f 39 = v39 at *; generalize f 40 = v40 at *; generalize f 41 = v41 at *; generalize f 42 = v42 at *; generalize f 43 = v43 at *
            subst e3
            refine wpOp_step rfl (fun K hK => ?_)
            go_simp
            (with_reducible apply upon_float_bin); exact rfl; exact hv3; exact (fvc rfl : Fv .f32 1149239296 (some 1149239296)); intro r n hr
            exact hK _ _ ⟨_, rfl, (fun p hp => by cases hp; exact ⟨_, rfl, hr⟩), below_drewN (Below.refl _ _) _⟩
          · obtain rfl := Option.some.inj ho
            obtain ⟨r1, e1, hv1⟩ : isFlt _ _ (f 39) w1 := hdep ⟨1, .data⟩ (by simp) rfl
            obtain ⟨r4, e4, hv4⟩ : isFlt _ _ (f 42) w1 := hdep ⟨4, .data⟩ (by simp) rfl
            clear hdep ho hi
            generalize f 38 = v38 at *; generalize f 39 = v39 at *; generalize f 40 = v40 at *; generalize f 41 = v41 at *; generalize f 42 = v42 at *; generalize f 43 = v43 at *
            subst e1 e4
            refine wpOp_step rfl (fun K hK => ?_)
            go_simp
            exact hK _ _ ⟨_, rfl, (fun p hp => by cases hp; exact congrArg Value.bool (by unfold leB; rw [order_fv hv1 hv4])), Below.refl _ _⟩
        · intro f w1 hI hF
          simp only [List.map_cons, List.map_nil, mix, List.contains_cons, List.contains_nil, Nat.reduceBEq, Bool.or_true, Bool.or_false, Bool.false_eq_true, if_true, if_false, Nat.reduceAdd, Nat.zero_add]
          obtain ⟨hp0, hp1, hp2, hp3, hb1⟩ := hI
          have hsz := hb1.size
          replace hbel := hbel.trans (hb1.mono hbel.size)
          have e5 : f 43 = (.bool (leB (longC (crossC (Ca) ((⟨some 1065353216, some 0, some 0⟩ : V3)))) (D (longC (Ca)) (some 1149239296)))) := hF 5 (by simp)
          rw [(show leB (longC (crossC (Ca) ((⟨some 1065353216, some 0, some 0⟩ : V3)))) (D (longC (Ca)) (some 1149239296)) = true from q2)] at e5
          clear hF
          generalize f 38 = v38 at *; generalize f 39 = v39 at *; generalize f 40 = v40 at *; generalize f 41 = v41 at *; generalize f 42 = v42 at *; generalize f 43 = v43 at *
          subst e5
          have Lw11hp0 := hp0.lt; have Lw11hp1 := hp1.lt; have Lw11hp2 := hp2.lt; have Lw11hp3 := hp3.lt
          obtain ⟨⟨c0_0, c0_1, c0_2⟩, fz0⟩ := id hp0
          obtain ⟨⟨c1_0, c1_1, c1_2⟩, fz1⟩ := id hp1
          obtain ⟨⟨c2_0, c2_1, c2_2, c2_3⟩, fz2⟩ := id hp2
          obtain ⟨⟨c3_0, c3_1, c3_2⟩, fz3⟩ := id hp3
          refine wpAny_done (by kernel_rfl) ?_ _
          go_upto_region 8 with fail
          refine wp_name (fun wr => HasF3 wr w.heap.size ax ay az ∧ HasF3 wr (w.heap.size + 1) cx cy cz ∧ HasF4 wr (w.heap.size + 2) 0 0 0 0 ∧ HasF3 wr W9c.heap.size x9 y9 z9 ∧ Below w.heap.size w wr) ⟨by (repeat (first | assumption | (refine HasF3.set ?_ _ _ (by first | omega | (simp; try omega))) | (refine HasF4.set ?_ _ _ (by first | omega | (simp; try omega))) | (refine HasF3.alloc ?_ _) | (refine HasF4.alloc ?_ _) | (refine HasF3.drewN ?_ _) | (refine HasF4.drewN ?_ _))), by (repeat (first | assumption | (refine HasF3.set ?_ _ _ (by first | omega | (simp; try omega))) | (refine HasF4.set ?_ _ _ (by first | omega | (simp; try omega))) | (refine HasF3.alloc ?_ _) | (refine HasF4.alloc ?_ _) | (refine HasF3.drewN ?_ _) | (refine HasF4.drewN ?_ _))), by (repeat (first | assumption | (refine HasF3.set ?_ _ _ (by first | omega | (simp; try omega))) | (refine HasF4.set ?_ _ _ (by first | omega | (simp; try omega))) | (refine HasF3.alloc ?_ _) | (refine HasF4.alloc ?_ _) | (refine HasF3.drewN ?_ _) | (refine HasF4.drewN ?_ _))), by (repeat (first | assumption | (refine HasF3.set ?_ _ _ (by first | omega | (simp; try omega))) | (refine HasF4.set ?_ _ _ (by first | omega | (simp; try omega))) | (refine HasF3.alloc ?_ _) | (refine HasF4.alloc ?_ _) | (refine HasF3.drewN ?_ _) | (refine HasF4.drewN ?_ _))), by (repeat (first | exact Below.refl _ _ | (refine below_drewN ?_ _) | (refine Below.drew ?_) | (refine Below.setCell ?_ (by first | omega | (simp; try omega)) _) | (refine Below.alloc ?_ (by first | omega | (simp; try omega)) _) | (refine Below.trans ?_ (Below.mono (by assumption) (by first | omega | (simp; try omega))))))⟩ ?_
          clear hbel hb1 hsz hp0 hp1 hp2 hp3 c0_0 c0_1 c0_2 c1_0 c1_1 c1_2 c2_0 c2_1 c2_2 c2_3 c3_0 c3_1 c3_2 fz0 fz1 fz2 fz3
          rintro W12n ⟨hp0, hp1, hp2, hp3, hbel⟩
          have LW12nhp0 := hp0.lt; have LW12nhp1 := hp1.lt; have LW12nhp2 := hp2.lt; have LW12nhp3 := hp3.lt; have SW12n := hbel.size
          obtain ⟨⟨c0_0, c0_1, c0_2⟩, fz0⟩ := id hp0
          obtain ⟨⟨c1_0, c1_1, c1_2⟩, fz1⟩ := id hp1
          obtain ⟨⟨c2_0, c2_1, c2_2, c2_3⟩, fz2⟩ := id hp2
          obtain ⟨⟨c3_0, c3_1, c3_2⟩, fz3⟩ := id hp3
          go_wp2_with fail
          refine (c_spec_l01Cross ha (⟨(fvc rfl : Fv .f32 0 (some 0)), (fvc rfl : Fv .f32 1065353216 (some 1065353216)), (fvc rfl : Fv .f32 0 (some 0))⟩ : Fv3 0 1065353216 0 ⟨some 0, some 1065353216, some 0⟩) _).mono ?_
          rintro e W13c ⟨⟨x13, y13, z13, rfl, hv13⟩, hb⟩
          clear c0_0 c0_1 c0_2 c1_0 c1_1 c1_2 c2_0 c2_1 c2_2 c2_3 c3_0 c3_1 c3_2 fz0 fz1 fz2 fz3
          replace hp0 := hp0.below hb
          replace hp1 := hp1.below hb
          replace hp2 := hp2.below hb
          replace hp3 := hp3.below hb
          replace hbel := hbel.trans (hb.mono hbel.size)
          clear hb
          have LW13chp0 := hp0.lt; have LW13chp1 := hp1.lt; have LW13chp2 := hp2.lt; have LW13chp3 := hp3.lt; have SW13c := hbel.size
          obtain ⟨⟨c0_0, c0_1, c0_2⟩, fz0⟩ := id hp0
          obtain ⟨⟨c1_0, c1_1, c1_2⟩, fz1⟩ := id hp1
          obtain ⟨⟨c2_0, c2_1, c2_2, c2_3⟩, fz2⟩ := id hp2
          obtain ⟨⟨c3_0, c3_1, c3_2⟩, fz3⟩ := id hp3
          go_upto_region 9 with fail
          refine wp_name (fun wr => HasF3 wr w.heap.size ax ay az ∧ HasF3 wr (w.heap.size + 1) cx cy cz ∧ HasF4 wr (w.heap.size + 2) 0 0 0 0 ∧ HasF3 wr W9c.heap.size x13 y13 z13 ∧ Below w.heap.size w wr) ⟨by (repeat (first | assumption | (refine HasF3.set ?_ _ _ (by first | omega | (simp; try omega))) | (refine HasF4.set ?_ _ _ (by first | omega | (simp; try omega))) | (refine HasF3.alloc ?_ _) | (refine HasF4.alloc ?_ _) | (refine HasF3.drewN ?_ _) | (refine HasF4.drewN ?_ _))), by (repeat (first | assumption | (refine HasF3.set ?_ _ _ (by first | omega | (simp; try omega))) | (refine HasF4.set ?_ _ _ (by first | omega | (simp; try omega))) | (refine HasF3.alloc ?_ _) | (refine HasF4.alloc ?_ _) | (refine HasF3.drewN ?_ _) | (refine HasF4.drewN ?_ _))), by (repeat (first | assumption | (refine HasF3.set ?_ _ _ (by first | omega | (simp; try omega))) | (refine HasF4.set ?_ _ _ (by first | omega | (simp; try omega))) | (refine HasF3.alloc ?_ _) | (refine HasF4.alloc ?_ _) | (refine HasF3.drewN ?_ _) | (refine HasF4.drewN ?_ _))), ⟨⟨by first | simp | go_simp, by first | simp | go_simp, by first | simp | go_simp⟩, fun o => by simp [*]⟩, by (repeat (first | exact Below.refl _ _ | (refine below_drewN ?_ _) | (refine Below.drew ?_) | (refine Below.setCell ?_ (by first | omega | (simp; try omega)) _) | (refine Below.alloc ?_ (by first | omega | (simp; try omega)) _) | (refine Below.trans ?_ (Below.mono (by assumption) (by first | omega | (simp; try omega))))))⟩ ?_
          clear hbel hp0 hp1 hp2 hp3 c0_0 c0_1 c0_2 c1_0 c1_1 c1_2 c2_0 c2_1 c2_2 c2_3 c3_0 c3_1 c3_2 fz0 fz1 fz2 fz3
          rintro W14n ⟨hp0, hp1, hp2, hp3, hbel⟩
          have LW14nhp0 := hp0.lt; have LW14nhp1 := hp1.lt; have LW14nhp2 := hp2.lt; have LW14nhp3 := hp3.lt; have SW14n := hbel.size
          obtain ⟨⟨c0_0, c0_1, c0_2⟩, fz0⟩ := id hp0
          obtain ⟨⟨c1_0, c1_1, c1_2⟩, fz1⟩ := id hp1
          obtain ⟨⟨c2_0, c2_1, c2_2, c2_3⟩, fz2⟩ := id hp2
          obtain ⟨⟨c3_0, c3_1, c3_2⟩, fz3⟩ := id hp3
          go_wp2_with fail
          refine (c_spec_l02Mend (⟨(fvc rfl : Fv .f32 0 (some 0)), hv13.x, hv13.y, hv13.z⟩ : Fv4 0 x13 y13 z13 ⟨some 0, (crossC (Ca) ((⟨some 0, some 1065353216, some 0⟩ : V3))).x, (crossC (Ca) ((⟨some 0, some 1065353216, some 0⟩ : V3))).y, (crossC (Ca) ((⟨some 0, some 1065353216, some 0⟩ : V3))).z⟩) _).mono ?_
          rintro e W15c ⟨⟨w15, x15, y15, z15, rfl, hv15⟩, hb⟩
          clear c0_0 c0_1 c0_2 c1_0 c1_1 c1_2 c2_0 c2_1 c2_2 c2_3 c3_0 c3_1 c3_2 fz0 fz1 fz2 fz3
          replace hp0 := hp0.below hb
          replace hp1 := hp1.below hb
          replace hp2 := hp2.below hb
          replace hp3 := hp3.below hb
          replace hbel := hbel.trans (hb.mono hbel.size)
          clear hb
          have LW15chp0 := hp0.lt; have LW15chp1 := hp1.lt; have LW15chp2 := hp2.lt; have LW15chp3 := hp3.lt; have SW15c := hbel.size
          obtain ⟨⟨c0_0, c0_1, c0_2⟩, fz0⟩ := id hp0
          obtain ⟨⟨c1_0, c1_1, c1_2⟩, fz1⟩ := id hp1
          obtain ⟨⟨c2_0, c2_1, c2_2, c2_3⟩, fz2⟩ := id hp2
          obtain ⟨⟨c3_0, c3_1, c3_2⟩, fz3⟩ := id hp3
          go_wp2_with fail
          apply ret_turn; exact hv15.w; exact hv15.x; exact hv15.y; exact hv15.z; simp [results, Try.results43, go_sem, *]; rfl; (repeat (first | exact Below.refl _ _ | (refine below_drewN ?_ _) | (refine Below.drew ?_) | (refine Below.setCell ?_ (by first | omega | (simp; try omega)) _) | (refine Below.alloc ?_ (by first | omega | (simp; try omega)) _) | (refine Below.trans ?_ (Below.mono (by assumption) (by first | omega | (simp; try omega))))))
  | true =>
    have hcls : tbC Ca Cc = mendC (turnC (tbW Ca Cc) (crossC Ca Cc)) := by unfold tbC; simp [q1]
    rw [hcls]; clear hcls
    go_enter Try.func43, Try.ntmps43
    go_upto_region 1 with fail
    refine wp_name (fun wr => HasF3 wr w.heap.size ax ay az ∧ HasF3 wr (w.heap.size + 1) cx cy cz ∧ HasF4 wr (w.heap.size + 2) 0 0 0 0 ∧ Below w.heap.size w wr) ⟨⟨⟨by go_simp, by go_simp, by go_simp⟩, fun o => by go_simp⟩, ⟨⟨by go_simp, by go_simp, by go_simp⟩, fun o => by go_simp⟩, ⟨⟨by go_simp, by go_simp, by go_simp, by go_simp⟩, fun o => by go_simp⟩, by (repeat (first | exact Below.refl _ _ | (refine below_drewN ?_ _) | (refine Below.drew ?_) | (refine Below.setCell ?_ (by first | omega | (simp; try omega)) _) | (refine Below.alloc ?_ (by first | omega | (simp; try omega)) _) | (refine Below.trans ?_ (Below.mono (by assumption) (by first | omega | (simp; try omega))))))⟩ ?_
    rintro W1 ⟨hp0, hp1, hp2, hbel⟩
    have LW1hp0 := hp0.lt; have LW1hp1 := hp1.lt; have LW1hp2 := hp2.lt; have SW1 := hbel.size
    refine wp_region_drawn [(9, isV (vec ax ay az)), (10, isFlt .f32 (longC (Ca))), (11, isV (vec cx cy cz)), (12, isFlt .f32 (longC (Cc))), (13, isFlt .f32 (M (longC (Ca)) (longC (Cc))))]
      (fun wr => HasF3 wr w.heap.size ax ay az ∧ HasF3 wr (w.heap.size + 1) cx cy cz ∧ HasF4 wr (w.heap.size + 2) 0 0 0 0 ∧ Below W1.heap.size W1 wr)
      (by kernel_rfl) (by kernel_rfl) (by kernel_rfl) (by kernel_rfl) (Nat.le_of_ble_eq_true (by kernel_rfl)) (by kernel_rfl) ?_ (fun _ _ hb h => ⟨h.1.below hb, h.2.1.below hb, h.2.2.1.below hb, h.2.2.2.trans (hb.mono h.2.2.2.size)⟩) ⟨hp0, hp1, hp2, (Below.refl _ _).drew⟩ ?_ ?_
    · intro p hp
      simp only [List.mem_cons, List.not_mem_nil, or_false] at hp
      rcases hp with rfl | rfl | rfl | rfl | rfl <;> first | exact mono_isV _ | exact mono_isVec _ | exact mono_isTurn _ | exact mono_isFlt _ _ | exact mono_isOwn3 _ | exact mono_isOwn4 _
    · intro i o hi ho f w1 hI hdep
      simp only [List.map_cons, List.map_nil, mix, List.contains_cons, List.contains_nil, Nat.reduceBEq, Bool.or_true, Bool.or_false, Bool.false_eq_true, if_true, if_false, Nat.reduceAdd, Nat.zero_add]
      have hcase : i = 0 ∨ i = 1 ∨ i = 2 ∨ i = 3 ∨ i = 4 := by simp at hi; omega
      obtain ⟨⟨⟨c0_0, c0_1, c0_2⟩, fz0⟩, ⟨⟨c1_0, c1_1, c1_2⟩, fz1⟩, ⟨⟨c2_0, c2_1, c2_2, c2_3⟩, fz2⟩, hb1⟩ := hI
      have hsz := hb1.size
      rcases hcase with rfl | rfl | rfl | rfl | rfl
      · obtain rfl := Option.some.inj ho
        clear hdep ho hi
        generalize f 9 = v9 at *; generalize f 10 = v10 at *; generalize f 11 = v11 at *; generalize f 12 = v12 at *; generalize f 13 = v13 at *
        refine wpOp_step rfl (fun K hK => ?_)
        go_simp
        exact hK _ _ ⟨_, rfl, (fun p hp => by cases hp; rfl), Below.refl _ _⟩
      · obtain rfl := Option.some.inj ho
        have e0 : f 9 = (vec ax ay az) := hdep ⟨0, .data⟩ (by simp) rfl
        clear hdep ho hi
        generalize f 9 = v9 at *; generalize f 10 = v10 at *; generalize f 11 = v11 at *; generalize f 12 = v12 at *; generalize f 13 = v13 at *
        subst e0
        refine wpOp_step rfl (fun K hK => ?_)
        go_simp
        refine (c_spec_l01Long ha _).mono ?_
        rintro e w' ⟨⟨y0, rfl, hv⟩, hb⟩
        exact hK _ _ ⟨_, rfl, (fun p hp => by cases hp; exact ⟨_, rfl, hv⟩), hb⟩
      · obtain rfl := Option.some.inj ho
        clear hdep ho hi
        generalize f 9 = v9 at *; generalize f 10 = v10 at *; generalize f 11 = v11 at *; generalize f 12 = v12 at *; generalize f 13 = v13 at *
        refine wpOp_step rfl (fun K hK => ?_)
        go_simp
        exact hK _ _ ⟨_, rfl, (fun p hp => by cases hp; rfl), Below.refl _ _⟩
      · obtain rfl := Option.some.inj ho
        have e2 : f 11 = (vec cx cy cz) := hdep ⟨2, .data⟩ (by simp) rfl
        clear hdep ho hi
        generalize f 9 = v9 at *; generalize f 10 = v10 at *; generalize f 11 = v11 at *; generalize f 12 = v12 at *; generalize f 13 = v13 at *
        subst e2
        refine wpOp_step rfl (fun K hK => ?_)
        go_simp
        refine (c_spec_l01Long hc _).mono ?_
        rintro e w' ⟨⟨y0, rfl, hv⟩, hb⟩
        exact hK _ _ ⟨_, rfl, (fun p hp => by cases hp; exact ⟨_, rfl, hv⟩), hb⟩
      · obtain rfl := Option.some.inj ho
        obtain ⟨r1, e1, hv1⟩ : isFlt _ _ (f 10) w1 := hdep ⟨1, .data⟩ (by simp) rfl
        obtain ⟨r3, e3, hv3⟩ : isFlt _ _ (f 12) w1 := hdep ⟨3, .data⟩ (by simp) rfl
        clear hdep ho hi
        generalize f 9 = v9 at *; generalize f 10 = v10 at *; generalize f 11 = v11 at *; generalize f 12 = v12 at *; generalize f 13 = v13 at *
        subst e1 e3
        refine wpOp_step rfl (fun K hK => ?_)
        go_simp
        (with_reducible apply upon_float_bin); exact rfl; exact hv1; exact hv3; intro r n hr
        exact hK _ _ ⟨_, rfl, (fun p hp => by cases hp; exact ⟨_, rfl, hr⟩), below_drewN (Below.refl _ _) _⟩
    · intro f w1 hI hF
      simp only [List.map_cons, List.map_nil, mix, List.contains_cons, List.contains_nil, Nat.reduceBEq, Bool.or_true, Bool.or_false, Bool.false_eq_true, if_true, if_false, Nat.reduceAdd, Nat.zero_add]
      obtain ⟨hp0, hp1, hp2, hb1⟩ := hI
      have hsz := hb1.size
      replace hbel := hbel.trans (hb1.mono hbel.size)
      obtain ⟨r1_13, e4, hv1_13⟩ : isFlt _ _ (f 13) w1 := hF 4 (by simp)
      clear hF
      generalize f 9 = v9 at *; generalize f 10 = v10 at *; generalize f 11 = v11 at *; generalize f 12 = v12 at *; generalize f 13 = v13 at *
      subst e4
      have Lw1hp0 := hp0.lt; have Lw1hp1 := hp1.lt; have Lw1hp2 := hp2.lt
      obtain ⟨⟨c0_0, c0_1, c0_2⟩, fz0⟩ := id hp0
      obtain ⟨⟨c1_0, c1_1, c1_2⟩, fz1⟩ := id hp1
      obtain ⟨⟨c2_0, c2_1, c2_2, c2_3⟩, fz2⟩ := id hp2
      change wpAny _ _ _ _ (0 + 1) _ _ _
      refine wpAny_all (rs := [5]) (by kernel_rfl) (by simp) ?_
      intro i hi
      obtain rfl : i = 5 := by simpa using hi
      clear hi
      refine wpOp_step rfl (fun K hK => ?_)
      go_simp
      refine hK _ _ (wpAny_done (by kernel_rfl) ?_ _)
      clear hK K
      go_upto_region 2 with fail
      refine wp_name (fun wr => HasF3 wr w.heap.size ax ay az ∧ HasF3 wr (w.heap.size + 1) cx cy cz ∧ HasF4 wr (w.heap.size + 2) 0 0 0 0 ∧ Below w.heap.size w wr) ⟨by (repeat (first | assumption | (refine HasF3.set ?_ _ _ (by first | omega | (simp; try omega))) | (refine HasF4.set ?_ _ _ (by first | omega | (simp; try omega))) | (refine HasF3.alloc ?_ _) | (refine HasF4.alloc ?_ _) | (refine HasF3.drewN ?_ _) | (refine HasF4.drewN ?_ _))), by (repeat (first | assumption | (refine HasF3.set ?_ _ _ (by first | omega | (simp; try omega))) | (refine HasF4.set ?_ _ _ (by first | omega | (simp; try omega))) | (refine HasF3.alloc ?_ _) | (refine HasF4.alloc ?_ _) | (refine HasF3.drewN ?_ _) | (refine HasF4.drewN ?_ _))), by (repeat (first | assumption | (refine HasF3.set ?_ _ _ (by first | omega | (simp; try omega))) | (refine HasF4.set ?_ _ _ (by first | omega | (simp; try omega))) | (refine HasF3.alloc ?_ _) | (refine HasF4.alloc ?_ _) | (refine HasF3.drewN ?_ _) | (refine HasF4.drewN ?_ _))), by (repeat (first | exact Below.refl _ _ | (refine below_drewN ?_ _) | (refine Below.drew ?_) | (refine Below.setCell ?_ (by first | omega | (simp; try omega)) _) | (refine Below.alloc ?_ (by first | omega | (simp; try omega)) _) | (refine Below.trans ?_ (Below.mono (by assumption) (by first | omega | (simp; try omega))))))⟩ ?_
      clear hbel hb1 hsz hp0 hp1 hp2 c0_0 c0_1 c0_2 c1_0 c1_1 c1_2 c2_0 c2_1 c2_2 c2_3 fz0 fz1 fz2
      rintro W2n ⟨hp0, hp1, hp2, hbel⟩
      have LW2nhp0 := hp0.lt; have LW2nhp1 := hp1.lt; have LW2nhp2 := hp2.lt; have SW2n := hbel.size
      obtain ⟨⟨c0_0, c0_1, c0_2⟩, fz0⟩ := id hp0
      obtain ⟨⟨c1_0, c1_1, c1_2⟩, fz1⟩ := id hp1
      obtain ⟨⟨c2_0, c2_1, c2_2, c2_3⟩, fz2⟩ := id hp2
      go_wp2_with fail
      refine (c_spec_l01Inner ha hc _).mono ?_
      rintro e W3c ⟨⟨r3, rfl, hv3⟩, hb⟩
      clear c0_0 c0_1 c0_2 c1_0 c1_1 c1_2 c2_0 c2_1 c2_2 c2_3 fz0 fz1 fz2
      replace hp0 := hp0.below hb
      replace hp1 := hp1.below hb
      replace hp2 := hp2.below hb
      replace hbel := hbel.trans (hb.mono hbel.size)
      clear hb
      have LW3chp0 := hp0.lt; have LW3chp1 := hp1.lt; have LW3chp2 := hp2.lt; have SW3c := hbel.size
      obtain ⟨⟨c0_0, c0_1, c0_2⟩, fz0⟩ := id hp0
      obtain ⟨⟨c1_0, c1_1, c1_2⟩, fz1⟩ := id hp1
      obtain ⟨⟨c2_0, c2_1, c2_2, c2_3⟩, fz2⟩ := id hp2
      go_wp2_with fail
      (with_reducible apply upon_float_bin); exact rfl; exact hv1_13; exact hv3; intro r4 n4 hv4; (try rw [World.drewN_drewN]); simp only [Act.put, List.setIfInBounds_toArray, List.set_cons_zero, List.set_cons_succ]
      go_upto_region 3 with fail
      refine wp_name (fun wr => HasF3 wr w.heap.size ax ay az ∧ HasF3 wr (w.heap.size + 1) cx cy cz ∧ HasF4 wr (w.heap.size + 2) 0 0 0 0 ∧ Below w.heap.size w wr) ⟨by (repeat (first | assumption | (refine HasF3.set ?_ _ _ (by first | omega | (simp; try omega))) | (refine HasF4.set ?_ _ _ (by first | omega | (simp; try omega))) | (refine HasF3.alloc ?_ _) | (refine HasF4.alloc ?_ _) | (refine HasF3.drewN ?_ _) | (refine HasF4.drewN ?_ _))), by (repeat (first | assumption | (refine HasF3.set ?_ _ _ (by first | omega | (simp; try omega))) | (refine HasF4.set ?_ _ _ (by first | omega | (simp; try omega))) | (refine HasF3.alloc ?_ _) | (refine HasF4.alloc ?_ _) | (refine HasF3.drewN ?_ _) | (refine HasF4.drewN ?_ _))), by (repeat (first | assumption | (refine HasF3.set ?_ _ _ (by first | omega | (simp; try omega))) | (refine HasF4.set ?_ _ _ (by first | omega | (simp; try omega))) | (refine HasF3.alloc ?_ _) | (refine HasF4.alloc ?_ _) | (refine HasF3.drewN ?_ _) | (refine HasF4.drewN ?_ _))), by (repeat (first | exact Below.refl _ _ | (refine below_drewN ?_ _) | (refine Below.drew ?_) | (refine Below.setCell ?_ (by first | omega | (simp; try omega)) _) | (refine Below.alloc ?_ (by first | omega | (simp; try omega)) _) | (refine Below.trans ?_ (Below.mono (by assumption) (by first | omega | (simp; try omega))))))⟩ ?_
      clear hbel hp0 hp1 hp2 c0_0 c0_1 c0_2 c1_0 c1_1 c1_2 c2_0 c2_1 c2_2 c2_3 fz0 fz1 fz2
      rintro W5n ⟨hp0, hp1, hp2, hbel⟩
      have LW5nhp0 := hp0.lt; have LW5nhp1 := hp1.lt; have LW5nhp2 := hp2.lt; have SW5n := hbel.size
      obtain ⟨⟨c0_0, c0_1, c0_2⟩, fz0⟩ := id hp0
      obtain ⟨⟨c1_0, c1_1, c1_2⟩, fz1⟩ := id hp1
      obtain ⟨⟨c2_0, c2_1, c2_2, c2_3⟩, fz2⟩ := id hp2
      go_wp2_with fail
      (with_reducible apply upon_float_bin); exact rfl; exact hv1_13; exact (fvc rfl : Fv .f32 1149239296 (some 1149239296)); intro r6 n6 hv6; (try rw [World.drewN_drewN]); simp only [Act.put, List.setIfInBounds_toArray, List.set_cons_zero, List.set_cons_succ]
      have hq7 : (FloatKind.f32.format.order r4 r6 == some .gt) = true := by rw [order_fv hv4 hv6]; exact q1
      go_upto_region 4 with fail
      refine wp_name (fun wr => HasF3 wr w.heap.size ax ay az ∧ HasF3 wr (w.heap.size + 1) cx cy cz ∧ HasF4 wr (w.heap.size + 2) 0 0 0 0 ∧ Below w.heap.size w wr) ⟨by (repeat (first | assumption | (refine HasF3.set ?_ _ _ (by first | omega | (simp; try omega))) | (refine HasF4.set ?_ _ _ (by first | omega | (simp; try omega))) | (refine HasF3.alloc ?_ _) | (refine HasF4.alloc ?_ _) | (refine HasF3.drewN ?_ _) | (refine HasF4.drewN ?_ _))), by (repeat (first | assumption | (refine HasF3.set ?_ _ _ (by first | omega | (simp; try omega))) | (refine HasF4.set ?_ _ _ (by first | omega | (simp; try omega))) | (refine HasF3.alloc ?_ _) | (refine HasF4.alloc ?_ _) | (refine HasF3.drewN ?_ _) | (refine HasF4.drewN ?_ _))), by (repeat (first | assumption | (refine HasF3.set ?_ _ _ (by first | omega | (simp; try omega))) | (refine HasF4.set ?_ _ _ (by first | omega | (simp; try omega))) | (refine HasF3.alloc ?_ _) | (refine HasF4.alloc ?_ _) | (refine HasF3.drewN ?_ _) | (refine HasF4.drewN ?_ _))), by (repeat (first | exact Below.refl _ _ | (refine below_drewN ?_ _) | (refine Below.drew ?_) | (refine Below.setCell ?_ (by first | omega | (simp; try omega)) _) | (refine Below.alloc ?_ (by first | omega | (simp; try omega)) _) | (refine Below.trans ?_ (Below.mono (by assumption) (by first | omega | (simp; try omega))))))⟩ ?_
      clear hbel hp0 hp1 hp2 c0_0 c0_1 c0_2 c1_0 c1_1 c1_2 c2_0 c2_1 c2_2 c2_3 fz0 fz1 fz2
      rintro W8n ⟨hp0, hp1, hp2, hbel⟩
      have LW8nhp0 := hp0.lt; have LW8nhp1 := hp1.lt; have LW8nhp2 := hp2.lt; have SW8n := hbel.size
      obtain ⟨⟨c0_0, c0_1, c0_2⟩, fz0⟩ := id hp0
      obtain ⟨⟨c1_0, c1_1, c1_2⟩, fz1⟩ := id hp1
      obtain ⟨⟨c2_0, c2_1, c2_2, c2_3⟩, fz2⟩ := id hp2
      go_wp2_with fail
      refine (c_spec_l01Cross ha hc _).mono ?_
      rintro e W9c ⟨⟨x9, y9, z9, rfl, hv9⟩, hb⟩
      clear c0_0 c0_1 c0_2 c1_0 c1_1 c1_2 c2_0 c2_1 c2_2 c2_3 fz0 fz1 fz2
      replace hp0 := hp0.below hb
      replace hp1 := hp1.below hb
      replace hp2 := hp2.below hb
      replace hbel := hbel.trans (hb.mono hbel.size)
      clear hb
      have LW9chp0 := hp0.lt; have LW9chp1 := hp1.lt; have LW9chp2 := hp2.lt; have SW9c := hbel.size
      obtain ⟨⟨c0_0, c0_1, c0_2⟩, fz0⟩ := id hp0
      obtain ⟨⟨c1_0, c1_1, c1_2⟩, fz1⟩ := id hp1
      obtain ⟨⟨c2_0, c2_1, c2_2, c2_3⟩, fz2⟩ := id hp2
      go_upto_region 5 with fail
      refine wp_name (fun wr => HasF3 wr w.heap.size ax ay az ∧ HasF3 wr (w.heap.size + 1) cx cy cz ∧ HasF4 wr (w.heap.size + 2) 0 0 0 0 ∧ HasF3 wr W9c.heap.size x9 y9 z9 ∧ Below w.heap.size w wr) ⟨by (repeat (first | assumption | (refine HasF3.set ?_ _ _ (by first | omega | (simp; try omega))) | (refine HasF4.set ?_ _ _ (by first | omega | (simp; try omega))) | (refine HasF3.alloc ?_ _) | (refine HasF4.alloc ?_ _) | (refine HasF3.drewN ?_ _) | (refine HasF4.drewN ?_ _))), by (repeat (first | assumption | (refine HasF3.set ?_ _ _ (by first | omega | (simp; try omega))) | (refine HasF4.set ?_ _ _ (by first | omega | (simp; try omega))) | (refine HasF3.alloc ?_ _) | (refine HasF4.alloc ?_ _) | (refine HasF3.drewN ?_ _) | (refine HasF4.drewN ?_ _))), by (repeat (first | assumption | (refine HasF3.set ?_ _ _ (by first | omega | (simp; try omega))) | (refine HasF4.set ?_ _ _ (by first | omega | (simp; try omega))) | (refine HasF3.alloc ?_ _) | (refine HasF4.alloc ?_ _) | (refine HasF3.drewN ?_ _) | (refine HasF4.drewN ?_ _))), ⟨⟨by first | simp | go_simp, by first | simp | go_simp, by first | simp | go_simp⟩, fun o => by simp [*]⟩, by (repeat (first | exact Below.refl _ _ | (refine below_drewN ?_ _) | (refine Below.drew ?_) | (refine Below.setCell ?_ (by first | omega | (simp; try omega)) _) | (refine Below.alloc ?_ (by first | omega | (simp; try omega)) _) | (refine Below.trans ?_ (Below.mono (by assumption) (by first | omega | (simp; try omega))))))⟩ ?_
      clear hbel hp0 hp1 hp2 c0_0 c0_1 c0_2 c1_0 c1_1 c1_2 c2_0 c2_1 c2_2 c2_3 fz0 fz1 fz2
      rintro W10n ⟨hp0, hp1, hp2, hp3, hbel⟩
      have LW10nhp0 := hp0.lt; have LW10nhp1 := hp1.lt; have LW10nhp2 := hp2.lt; have LW10nhp3 := hp3.lt; have SW10n := hbel.size
      obtain ⟨⟨c0_0, c0_1, c0_2⟩, fz0⟩ := id hp0
      obtain ⟨⟨c1_0, c1_1, c1_2⟩, fz1⟩ := id hp1
      obtain ⟨⟨c2_0, c2_1, c2_2, c2_3⟩, fz2⟩ := id hp2
      obtain ⟨⟨c3_0, c3_1, c3_2⟩, fz3⟩ := id hp3
      go_wp2_with fail
      refine (c_spec_l02Mend (⟨hv4, hv9.x, hv9.y, hv9.z⟩ : Fv4 r4 x9 y9 z9 ⟨A (M (longC (Ca)) (longC (Cc))) (innerC (Ca) (Cc)), (crossC (Ca) (Cc)).x, (crossC (Ca) (Cc)).y, (crossC (Ca) (Cc)).z⟩) _).mono ?_
      rintro e W11c ⟨⟨w11, x11, y11, z11, rfl, hv11⟩, hb⟩
      clear c0_0 c0_1 c0_2 c1_0 c1_1 c1_2 c2_0 c2_1 c2_2 c2_3 c3_0 c3_1 c3_2 fz0 fz1 fz2 fz3
      replace hp0 := hp0.below hb
      replace hp1 := hp1.below hb
      replace hp2 := hp2.below hb
      replace hp3 := hp3.below hb
      replace hbel := hbel.trans (hb.mono hbel.size)
      clear hb
      have LW11chp0 := hp0.lt; have LW11chp1 := hp1.lt; have LW11chp2 := hp2.lt; have LW11chp3 := hp3.lt; have SW11c := hbel.size
      obtain ⟨⟨c0_0, c0_1, c0_2⟩, fz0⟩ := id hp0
      obtain ⟨⟨c1_0, c1_1, c1_2⟩, fz1⟩ := id hp1
      obtain ⟨⟨c2_0, c2_1, c2_2, c2_3⟩, fz2⟩ := id hp2
      obtain ⟨⟨c3_0, c3_1, c3_2⟩, fz3⟩ := id hp3
      go_wp2_with fail
      apply ret_turn; exact hv11.w; exact hv11.x; exact hv11.y; exact hv11.z; simp [results, Try.results43, go_sem, *]; rfl; (repeat (first | exact Below.refl _ _ | (refine below_drewN ?_ _) | (refine Below.drew ?_) | (refine Below.setCell ?_ (by first | omega | (simp; try omega)) _) | (refine Below.alloc ?_ (by first | omega | (simp; try omega)) _) | (refine Below.trans ?_ (Below.mono (by assumption) (by first | omega | (simp; try omega))))))

theorem c_spec_TurnBetween {ax ay az cx cy cz : Nat} {Ca : V3} {Cc : V3} (ha : Fv3 ax ay az Ca) (hc : Fv3 cx cy cz Cc) (w : World) : Calls Try.prog 23 #[vec ax ay az, vec cx cy cz] w (RetT (tbC Ca Cc) w) := by
  go_enter Try.func23, Try.ntmps23
  go_wp2_with (go_at_call 43; refine (c_spec_l02Between ha hc _).mono ?_; rintro e w' ⟨⟨p2, x2, y2, z2, rfl, hv⟩, hb⟩; have hvw := hv.w; have hvx := hv.x; have hvy := hv.y; have hvz := hv.z; obtain ⟨hc, hf⟩ := bcell hb; have hs := hb.size; (try simp at hs))
  apply ret_turn; exact hv.w; exact hv.x; exact hv.y; exact hv.z; simp [results, Try.results23, go_sem, hc]; rfl; (repeat (first | exact Below.refl _ _ | (refine below_drewN ?_ _) | (refine Below.drew ?_) | (refine Below.setCell ?_ (by first | omega | (simp; try omega)) _) | (refine Below.alloc ?_ (by first | omega | (simp; try omega)) _) | (refine Below.trans ?_ (Below.mono (by assumption) (by first | omega | (simp; try omega))))))

end Go.Proofs.Yteefiihliepbgac
