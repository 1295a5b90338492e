/-
  Contracts of the straight functions on vectors and turns, of the program's and of the reference's: both compute the same classes. No condition.
-/
import Derived.Test.YtpfijbgkhekjfaaVa
set_option linter.unusedVariables false
namespace Go.Proofs.Ytpfijbgkhekjfaa
open Go.RowKit Go.Proofs.Ytpfijbgkhekjfaa.Fl

/-! ### what they compute, on classes -/
def A (x y : Option Nat) : Option Nat := fop .add .f32 x y
def B (x y : Option Nat) : Option Nat := fop .sub .f32 x y
def M (x y : Option Nat) : Option Nat := fop .mul .f32 x y
def D (x y : Option Nat) : Option Nat := fop .quo .f32 x y
def addC (u v : V3) : V3 := ⟨A u.x v.x, A u.y v.y, A u.z v.z⟩
def lessC (u v : V3) : V3 := ⟨B u.x v.x, B u.y v.y, B u.z v.z⟩
def scaleC (u : V3) (s : Option Nat) : V3 := ⟨M u.x s, M u.y s, M u.z s⟩
def overC (u : V3) (s : Option Nat) : V3 := ⟨D u.x s, D u.y s, D u.z s⟩
def innerC (u v : V3) : Option Nat := A (A (M u.x v.x) (M u.y v.y)) (M u.z v.z)
def crossC (u v : V3) : V3 := ⟨B (M u.y v.z) (M u.z v.y), B (M u.z v.x) (M u.x v.z), B (M u.x v.y) (M u.y v.x)⟩
def inner4C (s t : V4) : Option Nat := A (A (A (M s.w t.w) (M s.x t.x)) (M s.y t.y)) (M s.z t.z)
def mulC (s t : V4) : V4 :=
  ⟨B (B (B (M s.w t.w) (M s.x t.x)) (M s.y t.y)) (M s.z t.z), B (A (A (M s.w t.x) (M s.x t.w)) (M s.y t.z)) (M s.z t.y),
    A (A (B (M s.w t.y) (M s.x t.z)) (M s.y t.w)) (M s.z t.x), A (B (A (M s.w t.z) (M s.x t.y)) (M s.y t.x)) (M s.z t.w)⟩
def N (x : Option Nat) : Option Nat := fneg .f32 x
def invC (t : V4) : V4 := ⟨t.w, N t.x, N t.y, N t.z⟩
def oppC (t : V4) : V4 := ⟨N t.w, N t.x, N t.y, N t.z⟩
def noC : V4 := ⟨some 1065353216, some 0, some 0, some 0⟩
def axisC (t : V4) : V3 := ⟨t.x, t.y, t.z⟩
def turnC (w : Option Nat) (v : V3) : V4 := ⟨w, v.x, v.y, v.z⟩

theorem neg_run (x : Nat) (w : World) : (Op.unary .neg (.float .f32 x)).run Try.prog w = .ok (.float .f32 (Op.negFloat .f32 x)) w := rfl

theorem c_impl_AddVectors {ax ay az cx cy cz : Nat} {Ca : V3} {Cc : V3} (ha : Fv3 ax ay az Ca) (hc : Fv3 cx cy cz Cc) (w : World) : Calls Try.prog 66 #[vec ax ay az, vec cx cy cz] w (RetV (addC Ca Cc) w) := by
  obtain ⟨ha_0, ha_1, ha_2⟩ := ha
  obtain ⟨hc_0, hc_1, hc_2⟩ := hc
  go_enter Try.func66, Try.ntmps66
  go_wp2_with ((with_reducible apply upon_float_bin); exact rfl; (first | assumption | exact fvc rfl); (first | assumption | exact fvc rfl); intro r n hr; (try rw [World.drewN_drewN]); simp only [Act.put, List.setIfInBounds_toArray, List.set_cons_zero, List.set_cons_succ])
  apply ret_vec; (first | assumption | exact Fv.neg (by assumption)); (first | assumption | exact Fv.neg (by assumption)); (first | assumption | exact Fv.neg (by assumption)); simp [results, Try.results66, go_sem]; rfl; (repeat (first | exact Below.refl _ _ | (refine below_drewN ?_ _) | (refine Below.drew ?_) | (refine Below.setCell ?_ (by first | omega | (simp; try omega)) _) | (refine Below.alloc ?_ (by first | omega | (simp; try omega)) _) | (refine Below.trans ?_ (Below.mono (by assumption) (by first | omega | (simp; try omega))))))

theorem c_spec_l01Add {ax ay az cx cy cz : Nat} {Ca : V3} {Cc : V3} (ha : Fv3 ax ay az Ca) (hc : Fv3 cx cy cz Cc) (w : World) : Calls Try.prog 64 #[vec ax ay az, vec cx cy cz] w (RetV (addC Ca Cc) w) := by
  obtain ⟨ha_0, ha_1, ha_2⟩ := ha
  obtain ⟨hc_0, hc_1, hc_2⟩ := hc
  go_enter Try.func64, Try.ntmps64
  go_wp2_with ((with_reducible apply upon_float_bin); exact rfl; (first | assumption | exact fvc rfl); (first | assumption | exact fvc rfl); intro r n hr; (try rw [World.drewN_drewN]); simp only [Act.put, List.setIfInBounds_toArray, List.set_cons_zero, List.set_cons_succ])
  apply ret_vec; (first | assumption | exact Fv.neg (by assumption)); (first | assumption | exact Fv.neg (by assumption)); (first | assumption | exact Fv.neg (by assumption)); simp [results, Try.results64, go_sem]; rfl; (repeat (first | exact Below.refl _ _ | (refine below_drewN ?_ _) | (refine Below.drew ?_) | (refine Below.setCell ?_ (by first | omega | (simp; try omega)) _) | (refine Below.alloc ?_ (by first | omega | (simp; try omega)) _) | (refine Below.trans ?_ (Below.mono (by assumption) (by first | omega | (simp; try omega))))))

theorem c_impl_ScaleVector {ax ay az s : Nat} {Ca : V3} {Csc : Option Nat} (ha : Fv3 ax ay az Ca) (hsc : Fv .f32 s Csc) (w : World) : Calls Try.prog 33 #[vec ax ay az, .float .f32 s] w (RetV (scaleC Ca Csc) w) := by
  obtain ⟨ha_0, ha_1, ha_2⟩ := ha
  go_enter Try.func33, Try.ntmps33
  go_wp2_with ((with_reducible apply upon_float_bin); exact rfl; (first | assumption | exact fvc rfl); (first | assumption | exact fvc rfl); intro r n hr; (try rw [World.drewN_drewN]); simp only [Act.put, List.setIfInBounds_toArray, List.set_cons_zero, List.set_cons_succ])
  apply ret_vec; (first | assumption | exact Fv.neg (by assumption)); (first | assumption | exact Fv.neg (by assumption)); (first | assumption | exact Fv.neg (by assumption)); simp [results, Try.results33, go_sem]; rfl; (repeat (first | exact Below.refl _ _ | (refine below_drewN ?_ _) | (refine Below.drew ?_) | (refine Below.setCell ?_ (by first | omega | (simp; try omega)) _) | (refine Below.alloc ?_ (by first | omega | (simp; try omega)) _) | (refine Below.trans ?_ (Below.mono (by assumption) (by first | omega | (simp; try omega))))))

theorem c_spec_l01Scale {ax ay az s : Nat} {Ca : V3} {Csc : Option Nat} (ha : Fv3 ax ay az Ca) (hsc : Fv .f32 s Csc) (w : World) : Calls Try.prog 55 #[vec ax ay az, .float .f32 s] w (RetV (scaleC Ca Csc) w) := by
  obtain ⟨ha_0, ha_1, ha_2⟩ := ha
  go_enter Try.func55, Try.ntmps55
  go_wp2_with ((with_reducible apply upon_float_bin); exact rfl; (first | assumption | exact fvc rfl); (first | assumption | exact fvc rfl); intro r n hr; (try rw [World.drewN_drewN]); simp only [Act.put, List.setIfInBounds_toArray, List.set_cons_zero, List.set_cons_succ])
  apply ret_vec; (first | assumption | exact Fv.neg (by assumption)); (first | assumption | exact Fv.neg (by assumption)); (first | assumption | exact Fv.neg (by assumption)); simp [results, Try.results55, go_sem]; rfl; (repeat (first | exact Below.refl _ _ | (refine below_drewN ?_ _) | (refine Below.drew ?_) | (refine Below.setCell ?_ (by first | omega | (simp; try omega)) _) | (refine Below.alloc ?_ (by first | omega | (simp; try omega)) _) | (refine Below.trans ?_ (Below.mono (by assumption) (by first | omega | (simp; try omega))))))

theorem c_impl_CrossOf {ax ay az cx cy cz : Nat} {Ca : V3} {Cc : V3} (ha : Fv3 ax ay az Ca) (hc : Fv3 cx cy cz Cc) (w : World) : Calls Try.prog 65 #[vec ax ay az, vec cx cy cz] w (RetV (crossC Ca Cc) w) := by
  obtain ⟨ha_0, ha_1, ha_2⟩ := ha
  obtain ⟨hc_0, hc_1, hc_2⟩ := hc
  go_enter Try.func65, Try.ntmps65
  go_wp2_with ((with_reducible apply upon_float_bin); exact rfl; (first | assumption | exact fvc rfl); (first | assumption | exact fvc rfl); intro r n hr; (try rw [World.drewN_drewN]); simp only [Act.put, List.setIfInBounds_toArray, List.set_cons_zero, List.set_cons_succ])
  apply ret_vec; (first | assumption | exact Fv.neg (by assumption)); (first | assumption | exact Fv.neg (by assumption)); (first | assumption | exact Fv.neg (by assumption)); simp [results, Try.results65, go_sem]; rfl; (repeat (first | exact Below.refl _ _ | (refine below_drewN ?_ _) | (refine Below.drew ?_) | (refine Below.setCell ?_ (by first | omega | (simp; try omega)) _) | (refine Below.alloc ?_ (by first | omega | (simp; try omega)) _) | (refine Below.trans ?_ (Below.mono (by assumption) (by first | omega | (simp; try omega))))))

theorem c_spec_l01Cross {ax ay az cx cy cz : Nat} {Ca : V3} {Cc : V3} (ha : Fv3 ax ay az Ca) (hc : Fv3 cx cy cz Cc) (w : World) : Calls Try.prog 63 #[vec ax ay az, vec cx cy cz] w (RetV (crossC Ca Cc) w) := by
  obtain ⟨ha_0, ha_1, ha_2⟩ := ha
  obtain ⟨hc_0, hc_1, hc_2⟩ := hc
  go_enter Try.func63, Try.ntmps63
  go_wp2_with ((with_reducible apply upon_float_bin); exact rfl; (first | assumption | exact fvc rfl); (first | assumption | exact fvc rfl); intro r n hr; (try rw [World.drewN_drewN]); simp only [Act.put, List.setIfInBounds_toArray, List.set_cons_zero, List.set_cons_succ])
  apply ret_vec; (first | assumption | exact Fv.neg (by assumption)); (first | assumption | exact Fv.neg (by assumption)); (first | assumption | exact Fv.neg (by assumption)); simp [results, Try.results63, go_sem]; rfl; (repeat (first | exact Below.refl _ _ | (refine below_drewN ?_ _) | (refine Below.drew ?_) | (refine Below.setCell ?_ (by first | omega | (simp; try omega)) _) | (refine Below.alloc ?_ (by first | omega | (simp; try omega)) _) | (refine Below.trans ?_ (Below.mono (by assumption) (by first | omega | (simp; try omega))))))

theorem c_impl_InnerOf {ax ay az cx cy cz : Nat} {Ca : V3} {Cc : V3} (ha : Fv3 ax ay az Ca) (hc : Fv3 cx cy cz Cc) (w : World) : Calls Try.prog 34 #[vec ax ay az, vec cx cy cz] w (RetF .f32 (innerC Ca Cc) w) := by
  obtain ⟨ha_0, ha_1, ha_2⟩ := ha
  obtain ⟨hc_0, hc_1, hc_2⟩ := hc
  go_enter Try.func34, Try.ntmps34
  go_wp2_with ((with_reducible apply upon_float_bin); exact rfl; (first | assumption | exact fvc rfl); (first | assumption | exact fvc rfl); intro r n hr; (try rw [World.drewN_drewN]); simp only [Act.put, List.setIfInBounds_toArray, List.set_cons_zero, List.set_cons_succ])
  go_ret; exact ⟨⟨_, rfl, by assumption⟩, by (repeat (first | exact Below.refl _ _ | (refine below_drewN ?_ _) | (refine Below.drew ?_) | (refine Below.setCell ?_ (by first | omega | (simp; try omega)) _) | (refine Below.alloc ?_ (by first | omega | (simp; try omega)) _) | (refine Below.trans ?_ (Below.mono (by assumption) (by first | omega | (simp; try omega))))))⟩

theorem c_spec_l01Inner {ax ay az cx cy cz : Nat} {Ca : V3} {Cc : V3} (ha : Fv3 ax ay az Ca) (hc : Fv3 cx cy cz Cc) (w : World) : Calls Try.prog 56 #[vec ax ay az, vec cx cy cz] w (RetF .f32 (innerC Ca Cc) w) := by
  obtain ⟨ha_0, ha_1, ha_2⟩ := ha
  obtain ⟨hc_0, hc_1, hc_2⟩ := hc
  go_enter Try.func56, Try.ntmps56
  go_wp2_with ((with_reducible apply upon_float_bin); exact rfl; (first | assumption | exact fvc rfl); (first | assumption | exact fvc rfl); intro r n hr; (try rw [World.drewN_drewN]); simp only [Act.put, List.setIfInBounds_toArray, List.set_cons_zero, List.set_cons_succ])
  go_ret; exact ⟨⟨_, rfl, by assumption⟩, by (repeat (first | exact Below.refl _ _ | (refine below_drewN ?_ _) | (refine Below.drew ?_) | (refine Below.setCell ?_ (by first | omega | (simp; try omega)) _) | (refine Below.alloc ?_ (by first | omega | (simp; try omega)) _) | (refine Below.trans ?_ (Below.mono (by assumption) (by first | omega | (simp; try omega))))))⟩

theorem c_impl_InnerOfTurns {tw tx ty tz rw rx ry rz : Nat} {Ct : V4} {Cr : V4} (ht : Fv4 tw tx ty tz Ct) (hr : Fv4 rw rx ry rz Cr) (w : World) : Calls Try.prog 52 #[turn tw tx ty tz, turn rw rx ry rz] w (RetF .f32 (inner4C Ct Cr) w) := by
  obtain ⟨ht_0, ht_1, ht_2, ht_3⟩ := ht
  obtain ⟨hr_0, hr_1, hr_2, hr_3⟩ := hr
  go_enter Try.func52, Try.ntmps52
  go_wp2_with ((with_reducible apply upon_float_bin); exact rfl; (first | assumption | exact fvc rfl); (first | assumption | exact fvc rfl); intro r n hr; (try rw [World.drewN_drewN]); simp only [Act.put, List.setIfInBounds_toArray, List.set_cons_zero, List.set_cons_succ])
  go_ret; exact ⟨⟨_, rfl, by assumption⟩, by (repeat (first | exact Below.refl _ _ | (refine below_drewN ?_ _) | (refine Below.drew ?_) | (refine Below.setCell ?_ (by first | omega | (simp; try omega)) _) | (refine Below.alloc ?_ (by first | omega | (simp; try omega)) _) | (refine Below.trans ?_ (Below.mono (by assumption) (by first | omega | (simp; try omega))))))⟩

theorem c_spec_l02Inner {tw tx ty tz rw rx ry rz : Nat} {Ct : V4} {Cr : V4} (ht : Fv4 tw tx ty tz Ct) (hr : Fv4 rw rx ry rz Cr) (w : World) : Calls Try.prog 49 #[turn tw tx ty tz, turn rw rx ry rz] w (RetF .f32 (inner4C Ct Cr) w) := by
  obtain ⟨ht_0, ht_1, ht_2, ht_3⟩ := ht
  obtain ⟨hr_0, hr_1, hr_2, hr_3⟩ := hr
  go_enter Try.func49, Try.ntmps49
  go_wp2_with ((with_reducible apply upon_float_bin); exact rfl; (first | assumption | exact fvc rfl); (first | assumption | exact fvc rfl); intro r n hr; (try rw [World.drewN_drewN]); simp only [Act.put, List.setIfInBounds_toArray, List.set_cons_zero, List.set_cons_succ])
  go_ret; exact ⟨⟨_, rfl, by assumption⟩, by (repeat (first | exact Below.refl _ _ | (refine below_drewN ?_ _) | (refine Below.drew ?_) | (refine Below.setCell ?_ (by first | omega | (simp; try omega)) _) | (refine Below.alloc ?_ (by first | omega | (simp; try omega)) _) | (refine Below.trans ?_ (Below.mono (by assumption) (by first | omega | (simp; try omega))))))⟩

theorem c_impl_InverseOf {tw tx ty tz : Nat} {Ct : V4} (ht : Fv4 tw tx ty tz Ct) (w : World) : Calls Try.prog 37 #[turn tw tx ty tz] w (RetT (invC Ct) w) := by
  obtain ⟨ht_0, ht_1, ht_2, ht_3⟩ := ht
  have hneg := neg_run
  go_enter Try.func37, Try.ntmps37
  go_wp2_with fail
  apply ret_turn; (first | assumption | exact Fv.neg (by assumption)); (first | assumption | exact Fv.neg (by assumption)); (first | assumption | exact Fv.neg (by assumption)); (first | assumption | exact Fv.neg (by assumption)); simp [results, Try.results37, go_sem]; rfl; (repeat (first | exact Below.refl _ _ | (refine below_drewN ?_ _) | (refine Below.drew ?_) | (refine Below.setCell ?_ (by first | omega | (simp; try omega)) _) | (refine Below.alloc ?_ (by first | omega | (simp; try omega)) _) | (refine Below.trans ?_ (Below.mono (by assumption) (by first | omega | (simp; try omega))))))

theorem c_spec_l02Inverse {tw tx ty tz : Nat} {Ct : V4} (ht : Fv4 tw tx ty tz Ct) (w : World) : Calls Try.prog 59 #[turn tw tx ty tz] w (RetT (invC Ct) w) := by
  obtain ⟨ht_0, ht_1, ht_2, ht_3⟩ := ht
  have hneg := neg_run
  go_enter Try.func59, Try.ntmps59
  go_wp2_with fail
  apply ret_turn; (first | assumption | exact Fv.neg (by assumption)); (first | assumption | exact Fv.neg (by assumption)); (first | assumption | exact Fv.neg (by assumption)); (first | assumption | exact Fv.neg (by assumption)); simp [results, Try.results59, go_sem]; rfl; (repeat (first | exact Below.refl _ _ | (refine below_drewN ?_ _) | (refine Below.drew ?_) | (refine Below.setCell ?_ (by first | omega | (simp; try omega)) _) | (refine Below.alloc ?_ (by first | omega | (simp; try omega)) _) | (refine Below.trans ?_ (Below.mono (by assumption) (by first | omega | (simp; try omega))))))

theorem c_Turn_opposite {tw tx ty tz : Nat} {Ct : V4} (ht : Fv4 tw tx ty tz Ct) (w : World) : Calls Try.prog 53 #[turn tw tx ty tz] w (RetT (oppC Ct) w) := by
  obtain ⟨ht_0, ht_1, ht_2, ht_3⟩ := ht
  have hneg := neg_run
  go_enter Try.func53, Try.ntmps53
  go_wp2_with fail
  apply ret_turn; (first | assumption | exact Fv.neg (by assumption)); (first | assumption | exact Fv.neg (by assumption)); (first | assumption | exact Fv.neg (by assumption)); (first | assumption | exact Fv.neg (by assumption)); simp [results, Try.results53, go_sem]; rfl; (repeat (first | exact Below.refl _ _ | (refine below_drewN ?_ _) | (refine Below.drew ?_) | (refine Below.setCell ?_ (by first | omega | (simp; try omega)) _) | (refine Below.alloc ?_ (by first | omega | (simp; try omega)) _) | (refine Below.trans ?_ (Below.mono (by assumption) (by first | omega | (simp; try omega))))))

theorem c_impl_NoTurn (w : World) : Calls Try.prog 62 #[] w (RetT noC w) := by
  go_enter Try.func62, Try.ntmps62
  go_wp2_with fail
  apply ret_turn; exact (fvc rfl : Fv .f32 1065353216 (some 1065353216)); exact (fvc rfl : Fv .f32 0 (some 0)); exact (fvc rfl : Fv .f32 0 (some 0)); exact (fvc rfl : Fv .f32 0 (some 0)); simp [results, Try.results62, go_sem]; rfl; (repeat (first | exact Below.refl _ _ | (refine below_drewN ?_ _) | (refine Below.drew ?_) | (refine Below.setCell ?_ (by first | omega | (simp; try omega)) _) | (refine Below.alloc ?_ (by first | omega | (simp; try omega)) _) | (refine Below.trans ?_ (Below.mono (by assumption) (by first | omega | (simp; try omega))))))

theorem c_spec_l02No (w : World) : Calls Try.prog 77 #[] w (RetT noC w) := by
  go_enter Try.func77, Try.ntmps77
  go_wp2_with fail
  apply ret_turn; exact (fvc rfl : Fv .f32 1065353216 (some 1065353216)); exact (fvc rfl : Fv .f32 0 (some 0)); exact (fvc rfl : Fv .f32 0 (some 0)); exact (fvc rfl : Fv .f32 0 (some 0)); simp [results, Try.results77, go_sem]; rfl; (repeat (first | exact Below.refl _ _ | (refine below_drewN ?_ _) | (refine Below.drew ?_) | (refine Below.setCell ?_ (by first | omega | (simp; try omega)) _) | (refine Below.alloc ?_ (by first | omega | (simp; try omega)) _) | (refine Below.trans ?_ (Below.mono (by assumption) (by first | omega | (simp; try omega))))))

theorem c_Turn_vector {tw tx ty tz : Nat} {Ct : V4} (ht : Fv4 tw tx ty tz Ct) (w : World) : Calls Try.prog 35 #[turn tw tx ty tz] w (RetV (axisC Ct) w) := by
  obtain ⟨ht_0, ht_1, ht_2, ht_3⟩ := ht
  go_enter Try.func35, Try.ntmps35
  go_wp2_with fail
  apply ret_vec; (first | assumption | exact Fv.neg (by assumption)); (first | assumption | exact Fv.neg (by assumption)); (first | assumption | exact Fv.neg (by assumption)); simp [results, Try.results35, go_sem]; rfl; (repeat (first | exact Below.refl _ _ | (refine below_drewN ?_ _) | (refine Below.drew ?_) | (refine Below.setCell ?_ (by first | omega | (simp; try omega)) _) | (refine Below.alloc ?_ (by first | omega | (simp; try omega)) _) | (refine Below.trans ?_ (Below.mono (by assumption) (by first | omega | (simp; try omega))))))

theorem c_spec_l02Axis {tw tx ty tz : Nat} {Ct : V4} (ht : Fv4 tw tx ty tz Ct) (w : World) : Calls Try.prog 57 #[turn tw tx ty tz] w (RetV (axisC Ct) w) := by
  obtain ⟨ht_0, ht_1, ht_2, ht_3⟩ := ht
  go_enter Try.func57, Try.ntmps57
  go_wp2_with fail
  apply ret_vec; (first | assumption | exact Fv.neg (by assumption)); (first | assumption | exact Fv.neg (by assumption)); (first | assumption | exact Fv.neg (by assumption)); simp [results, Try.results57, go_sem]; rfl; (repeat (first | exact Below.refl _ _ | (refine below_drewN ?_ _) | (refine Below.drew ?_) | (refine Below.setCell ?_ (by first | omega | (simp; try omega)) _) | (refine Below.alloc ?_ (by first | omega | (simp; try omega)) _) | (refine Below.trans ?_ (Below.mono (by assumption) (by first | omega | (simp; try omega))))))

theorem c_impl_turnOf {s ax ay az : Nat} {Csc : Option Nat} {Ca : V3} (hsc : Fv .f32 s Csc) (ha : Fv3 ax ay az Ca) (w : World) : Calls Try.prog 32 #[.float .f32 s, vec ax ay az] w (RetT (turnC Csc Ca) w) := by
  obtain ⟨ha_0, ha_1, ha_2⟩ := ha
  go_enter Try.func32, Try.ntmps32
  go_wp2_with fail
  apply ret_turn; (first | assumption | exact Fv.neg (by assumption)); (first | assumption | exact Fv.neg (by assumption)); (first | assumption | exact Fv.neg (by assumption)); (first | assumption | exact Fv.neg (by assumption)); simp [results, Try.results32, go_sem]; rfl; (repeat (first | exact Below.refl _ _ | (refine below_drewN ?_ _) | (refine Below.drew ?_) | (refine Below.setCell ?_ (by first | omega | (simp; try omega)) _) | (refine Below.alloc ?_ (by first | omega | (simp; try omega)) _) | (refine Below.trans ?_ (Below.mono (by assumption) (by first | omega | (simp; try omega))))))

end Go.Proofs.Ytpfijbgkhekjfaa
