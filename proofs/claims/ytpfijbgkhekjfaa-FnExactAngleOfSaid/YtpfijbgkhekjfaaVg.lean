/-
  The angle of a point, in 64 bits: the program's and the reference's do the same operations. No condition.
-/
import Derived.Test.YtpfijbgkhekjfaaVq
import Derived.Test.YtpfijbgkhekjfaaFu
import Derived.ChangeOld
set_option linter.unusedVariables false
namespace Go.Proofs.Ytpfijbgkhekjfaa
open Go.RowKit Go.Proofs.Ytpfijbgkhekjfaa.Fl

theorem fv_int (n : Int) : Fv .f64 (FloatKind.f64.nearest n) (some (FloatKind.f64.nearest n)) := by
  refine ⟨?_, cls_write .f64 (.number (n < 0) n.natAbs 0) rfl⟩
  show Ieee.double.nearest _ _ _ < _
  rw [nearest_word]
  have h := near_lt Ieee.double (decide (n < 0)) n.natAbs 0
  generalize near Ieee.double (decide (n < 0)) n.natAbs 0 = r at *
  have e : Ieee.double.signWeight = 2 ^ 63 := rfl
  have e2 : FloatKind.f64.format.width = 64 := rfl
  rw [e2]
  unfold Ieee.Format.word
  rw [e] at h ⊢
  cases decide (n < 0) <;> simp <;> omega

abbrev A6 (x y : Option Nat) : Option Nat := fop .add .f64 x y
abbrev B6 (x y : Option Nat) : Option Nat := fop .sub .f64 x y
abbrev M6 (x y : Option Nat) : Option Nat := fop .mul .f64 x y
abbrev D6 (x y : Option Nat) : Option Nat := fop .quo .f64 x y
abbrev one6 : Option Nat := some 4607182418800017408
def gt6 (x y : Option Nat) : Bool := ford .f64 x y == some .gt
def lt6 (x : Option Nat) : Bool := ford .f64 x (some 0) == some .lt
def stepT (t : Option Nat) : Option Nat := D6 t (A6 one6 (fsqrt (A6 one6 (M6 t t))))
def stepP (u : Option Nat) (k : Int) (p : Option Nat) : Option Nat := B6 (D6 one6 (some (FloatKind.f64.nearest k))) (M6 u p)
def itT (t : Option Nat) : Nat → Option Nat
  | 0 => t
  | n + 1 => stepT (itT t n)
def itP (u : Option Nat) : Nat → Option Nat
  | 0 => some 0
  | n + 1 => stepP u (15 - 2 * (n : Int)) (itP u n)
def angT (y x : Option Nat) : Option Nat := match gt6 (fabs .f64 y) (fabs .f64 x) with
  | true => D6 (fabs .f64 x) (fabs .f64 y)
  | false => D6 (fabs .f64 y) (fabs .f64 x)
def ang0 (t : Option Nat) : Option Nat := D6 (M6 (some 4620693217682128896) (M6 t (itP (M6 t t) 8))) (some 4618760256179416344)
def ang1 (y x : Option Nat) : Option Nat := match gt6 (fabs .f64 y) (fabs .f64 x) with
  | true => B6 (some 4598175219545276416) (ang0 (itT (angT y x) 3))
  | false => ang0 (itT (angT y x) 3)
def ang2 (y x : Option Nat) : Option Nat := match lt6 x with
  | true => B6 (some 4602678819172646912) (ang1 y x)
  | false => ang1 y x
def ang3 (y x : Option Nat) : Option Nat := match lt6 y with
  | true => fneg .f64 (ang2 y x)
  | false => ang2 y x

theorem neg_run6 (x : Nat) (w : World) : (Op.unary .neg (.float .f64 x)).run Try.prog w = .ok (.float .f64 (Op.negFloat .f64 x)) w := rfl

theorem c_math_Abs {x : Nat} {c : Option Nat} (h : Fv .f64 x c) (w : World) :
    Calls Try.prog 70 #[.float .f64 x] w fun e w' => (∃ r, e = .returned (.float .f64 r) ∧ Fv .f64 r (fabs .f64 c)) ∧ ∃ n, w' = w.drewN n := by
  have hx := f64bits
  have hy := f64from
  go_enter Try.func70, Try.ntmps70
  go_wp2
  go_ret
  refine ⟨⟨_, rfl, ?_⟩, 0, rfl⟩
  rw [andNot_top64 x h.lt]
  exact h.abs

set_option maxHeartbeats 4000000 in
theorem c_impl_wideAngle {y x : Nat} {Cy Cx : Option Nat} (hy : Fv .f64 y Cy) (hx : Fv .f64 x Cx) (w : World) :
    Calls Try.prog 43 #[.float .f64 y, .float .f64 x] w fun e w' => (∃ r, e = .returned (.float .f64 r) ∧ Fv .f64 r (ang3 Cy Cx)) ∧ ∃ n, w' = w.drewN n := by
  have hneg := neg_run6
  have ox : (FloatKind.f64.format.order x 0 == some .lt) = lt6 Cx := by rw [order_fv hx (fvc rfl : Fv .f64 0 (some 0))]; rfl
  have oy : (FloatKind.f64.format.order y 0 == some .lt) = lt6 Cy := by rw [order_fv hy (fvc rfl : Fv .f64 0 (some 0))]; rfl
  go_enter Try.func43, Try.ntmps43
  go_wp2_with fail
  refine (c_math_Abs hy _).mono ?_; rintro e w1 ⟨⟨a, rfl, ha⟩, n1, rfl⟩
  go_wp2_with fail
  refine (c_math_Abs hx _).mono ?_; rintro e w1 ⟨⟨b, rfl, hb⟩, n2, rfl⟩
  have oab : (FloatKind.f64.format.order a b == some .gt) = gt6 (fabs .f64 Cy) (fabs .f64 Cx) := by rw [order_fv ha hb]; rfl
  cases q1 : gt6 (fabs .f64 Cy) (fabs .f64 Cx) with
  | false =>
    rw [q1] at oab
    have hT : angT Cy Cx = D6 (fabs .f64 Cy) (fabs .f64 Cx) := by unfold angT; rw [q1]
    go_wp2_with ((with_reducible apply upon_float_bin); exact rfl; (first | assumption | exact fv_int _ | exact fvc rfl); (first | assumption | exact fv_int _ | exact fvc rfl); intro r n hr; (try rw [World.drewN_drewN]); simp only [Act.put, List.setIfInBounds_toArray, List.set_cons_zero, List.set_cons_succ])
    go_loopw [7, 25] (fun t i wr => ∃ k r : Nat, k ≤ 3 ∧ i = .int .i64 k ∧ t = .float .f64 r ∧ Fv .f64 r (itT (angT Cy Cx) k) ∧ ∃ n, wr = w.drewN n) (fun _ i _ => 3 - (intOf i).toNat)
    case atStart => exact ⟨0, _, by omega, rfl, rfl, by rw [itT, hT]; exact hr, _, rfl⟩
    case round =>
      clear hr
      obtain ⟨k, r, hk, rfl, rfl, hr, n, rfl⟩ := hrel
      by_cases hlt : k < 3
      · go_wp2_with (first | ((with_reducible apply upon_float_bin); exact rfl; (first | assumption | exact fv_int _ | exact fvc rfl); (first | assumption | exact fv_int _ | exact fvc rfl); intro r n hr; (try rw [World.drewN_drewN]); simp only [Act.put, List.setIfInBounds_toArray, List.set_cons_zero, List.set_cons_succ]) | (go_at_call 71; refine (c_math_Sqrt hr _).mono ?_; rintro e w' ⟨⟨r, rfl, hr⟩, m, rfl⟩))
        all_goals
          go_roundw
          case rel => exact ⟨k + 1, _, by omega, by go_num, rfl, hr, _, rfl⟩
          case measure => simp [intOf]; omega
      · obtain rfl : k = 3 := by omega
        generalize hTT : itT (angT Cy Cx) 3 = T at *
        have ht := hr
        go_wp2_with ((with_reducible apply upon_float_bin); exact rfl; (first | assumption | exact fv_int _ | exact fvc rfl); (first | assumption | exact fv_int _ | exact fvc rfl); intro r n hr; (try rw [World.drewN_drewN]); simp only [Act.put, List.setIfInBounds_toArray, List.set_cons_zero, List.set_cons_succ])
        have hu := hr
        go_loopw [9, 10] (fun p i wr => ∃ k r : Nat, k ≤ 8 ∧ i = .int .i64 (15 - 2 * (k : Int)) ∧ p = .float .f64 r ∧ Fv .f64 r (itP (M6 T T) k) ∧ ∃ n, wr = w.drewN n) (fun _ i _ => (intOf i + 1).toNat)
        case atStart => exact ⟨0, _, by omega, rfl, rfl, (fvc rfl : Fv .f64 0 (some 0)), _, rfl⟩
        case round =>
          clear hr
          obtain ⟨k, r, hk, rfl, rfl, hr, n, rfl⟩ := hrel
          by_cases hlt : k < 8
          · go_wp2_with ((with_reducible apply upon_float_bin); exact rfl; (first | assumption | exact fv_int _ | exact fvc rfl); (first | assumption | exact fv_int _ | exact fvc rfl); intro r n hr; (try rw [World.drewN_drewN]); simp only [Act.put, List.setIfInBounds_toArray, List.set_cons_zero, List.set_cons_succ])
            all_goals
              go_roundw
              case rel => exact ⟨k + 1, _, by omega, by go_num, rfl, hr, _, rfl⟩
              case measure => simp [intOf]; omega
          · obtain rfl : k = 8 := by omega
            have h0 : Fv .f64 r (itP (M6 T T) 8) := hr
            clear hr
            cases q2 : lt6 Cx <;> cases q3 : lt6 Cy <;> rw [q2] at ox <;> rw [q3] at oy <;> (
              go_wp2_with ((with_reducible apply upon_float_bin); exact rfl; (first | assumption | exact fv_int _ | exact fvc rfl); (first | assumption | exact fv_int _ | exact fvc rfl); intro r n hr; (try rw [World.drewN_drewN]); simp only [Act.put, List.setIfInBounds_toArray, List.set_cons_zero, List.set_cons_succ])
              go_ret
              refine ⟨⟨_, rfl, ?_⟩, _, rfl⟩
              simp only [ang3, ang2, ang1, q1, q2, q3, hTT]
              first | exact hr | exact Fv.neg hr)
  | true =>
    rw [q1] at oab
    have hT : angT Cy Cx = D6 (fabs .f64 Cx) (fabs .f64 Cy) := by unfold angT; rw [q1]
    go_wp2_with ((with_reducible apply upon_float_bin); exact rfl; (first | assumption | exact fv_int _ | exact fvc rfl); (first | assumption | exact fv_int _ | exact fvc rfl); intro r n hr; (try rw [World.drewN_drewN]); simp only [Act.put, List.setIfInBounds_toArray, List.set_cons_zero, List.set_cons_succ])
    go_loopw [7, 25] (fun t i wr => ∃ k r : Nat, k ≤ 3 ∧ i = .int .i64 k ∧ t = .float .f64 r ∧ Fv .f64 r (itT (angT Cy Cx) k) ∧ ∃ n, wr = w.drewN n) (fun _ i _ => 3 - (intOf i).toNat)
    case atStart => exact ⟨0, _, by omega, rfl, rfl, by rw [itT, hT]; exact hr, _, rfl⟩
    case round =>
      clear hr
      obtain ⟨k, r, hk, rfl, rfl, hr, n, rfl⟩ := hrel
      by_cases hlt : k < 3
      · go_wp2_with (first | ((with_reducible apply upon_float_bin); exact rfl; (first | assumption | exact fv_int _ | exact fvc rfl); (first | assumption | exact fv_int _ | exact fvc rfl); intro r n hr; (try rw [World.drewN_drewN]); simp only [Act.put, List.setIfInBounds_toArray, List.set_cons_zero, List.set_cons_succ]) | (go_at_call 71; refine (c_math_Sqrt hr _).mono ?_; rintro e w' ⟨⟨r, rfl, hr⟩, m, rfl⟩))
        all_goals
          go_roundw
          case rel => exact ⟨k + 1, _, by omega, by go_num, rfl, hr, _, rfl⟩
          case measure => simp [intOf]; omega
      · obtain rfl : k = 3 := by omega
        generalize hTT : itT (angT Cy Cx) 3 = T at *
        have ht := hr
        go_wp2_with ((with_reducible apply upon_float_bin); exact rfl; (first | assumption | exact fv_int _ | exact fvc rfl); (first | assumption | exact fv_int _ | exact fvc rfl); intro r n hr; (try rw [World.drewN_drewN]); simp only [Act.put, List.setIfInBounds_toArray, List.set_cons_zero, List.set_cons_succ])
        have hu := hr
        go_loopw [9, 10] (fun p i wr => ∃ k r : Nat, k ≤ 8 ∧ i = .int .i64 (15 - 2 * (k : Int)) ∧ p = .float .f64 r ∧ Fv .f64 r (itP (M6 T T) k) ∧ ∃ n, wr = w.drewN n) (fun _ i _ => (intOf i + 1).toNat)
        case atStart => exact ⟨0, _, by omega, rfl, rfl, (fvc rfl : Fv .f64 0 (some 0)), _, rfl⟩
        case round =>
          clear hr
          obtain ⟨k, r, hk, rfl, rfl, hr, n, rfl⟩ := hrel
          by_cases hlt : k < 8
          · go_wp2_with ((with_reducible apply upon_float_bin); exact rfl; (first | assumption | exact fv_int _ | exact fvc rfl); (first | assumption | exact fv_int _ | exact fvc rfl); intro r n hr; (try rw [World.drewN_drewN]); simp only [Act.put, List.setIfInBounds_toArray, List.set_cons_zero, List.set_cons_succ])
            all_goals
              go_roundw
              case rel => exact ⟨k + 1, _, by omega, by go_num, rfl, hr, _, rfl⟩
              case measure => simp [intOf]; omega
          · obtain rfl : k = 8 := by omega
            have h0 : Fv .f64 r (itP (M6 T T) 8) := hr
            clear hr
            cases q2 : lt6 Cx <;> cases q3 : lt6 Cy <;> rw [q2] at ox <;> rw [q3] at oy <;> (
              go_wp2_with ((with_reducible apply upon_float_bin); exact rfl; (first | assumption | exact fv_int _ | exact fvc rfl); (first | assumption | exact fv_int _ | exact fvc rfl); intro r n hr; (try rw [World.drewN_drewN]); simp only [Act.put, List.setIfInBounds_toArray, List.set_cons_zero, List.set_cons_succ])
              go_ret
              refine ⟨⟨_, rfl, ?_⟩, _, rfl⟩
              simp only [ang3, ang2, ang1, q1, q2, q3, hTT]
              first | exact hr | exact Fv.neg hr)

def fin6 (c : Option Nat) : Bool := ford .f64 (fop .sub .f64 c c) (some 0) == some .eq
def eq6 (c : Option Nat) : Bool := ford .f64 c (some 0) == some .eq


set_option maxHeartbeats 4000000 in
theorem c_spec_l01AngleWide {y x : Nat} {Cy Cx : Option Nat} (hy : Fv .f64 y Cy) (hx : Fv .f64 x Cx) (fy : fin6 Cy = true) (fx : fin6 Cx = true) (hz : (eq6 Cx && eq6 Cy) = false) (w : World) :
    Calls Try.prog 68 #[.float .f64 y, .float .f64 x] w fun e w' => (∃ r, e = .returned (.float .f64 r) ∧ Fv .f64 r (ang3 Cy Cx)) ∧ ∃ n, w' = w.drewN n := by
  have hneg := neg_run6
  have ox : (FloatKind.f64.format.order x 0 == some .lt) = lt6 Cx := by rw [order_fv hx (fvc rfl : Fv .f64 0 (some 0))]; rfl
  have oy : (FloatKind.f64.format.order y 0 == some .lt) = lt6 Cy := by rw [order_fv hy (fvc rfl : Fv .f64 0 (some 0))]; rfl
  have ex : (FloatKind.f64.format.order x 0 == some .eq) = eq6 Cx := by rw [order_fv hx (fvc rfl : Fv .f64 0 (some 0))]; rfl
  have ey : (FloatKind.f64.format.order y 0 == some .eq) = eq6 Cy := by rw [order_fv hy (fvc rfl : Fv .f64 0 (some 0))]; rfl
  cases q4 : eq6 Cx <;> cases q5 : eq6 Cy <;> rw [q4] at ex hz <;> rw [q5] at ey hz <;> first | (exfalso; revert hz; decide) | skip
  all_goals
   (go_enter Try.func68, Try.ntmps68
    go_wp2_with fail
    (with_reducible apply upon_float_bin); exact rfl; exact hy; exact hy; intro r1 n1 h1; (try rw [World.drewN_drewN]); simp only [Act.put, List.setIfInBounds_toArray, List.set_cons_zero, List.set_cons_succ]
    have o1 : (FloatKind.f64.format.order r1 0 == some .eq) = true := by rw [order_fv h1 (fvc rfl : Fv .f64 0 (some 0))]; exact fy
    have o1' : (FloatKind.f64.format.order r1 0 != some .eq) = false := by rw [bne, o1]; rfl
    go_wp2_with fail
    (with_reducible apply upon_float_bin); exact rfl; exact hx; exact hx; intro r2 n2 h2; (try rw [World.drewN_drewN]); simp only [Act.put, List.setIfInBounds_toArray, List.set_cons_zero, List.set_cons_succ]
    have o2 : (FloatKind.f64.format.order r2 0 == some .eq) = true := by rw [order_fv h2 (fvc rfl : Fv .f64 0 (some 0))]; exact fx
    have o2' : (FloatKind.f64.format.order r2 0 != some .eq) = false := by rw [bne, o2]; rfl
    go_wp2_with fail
    refine (c_math_Abs hy _).mono ?_; rintro e w1 ⟨⟨a, rfl, ha⟩, n3, rfl⟩
    go_wp2_with fail
    refine (c_math_Abs hx _).mono ?_; rintro e w1 ⟨⟨b, rfl, hb⟩, n4, rfl⟩
    have oab : (FloatKind.f64.format.order a b == some .gt) = gt6 (fabs .f64 Cy) (fabs .f64 Cx) := by rw [order_fv ha hb]; rfl
    cases q1 : gt6 (fabs .f64 Cy) (fabs .f64 Cx) with
    | false =>
      rw [q1] at oab
      have hT : angT Cy Cx = D6 (fabs .f64 Cy) (fabs .f64 Cx) := by unfold angT; rw [q1]
      go_wp2_with ((with_reducible apply upon_float_bin); exact rfl; (first | assumption | exact fv_int _ | exact fvc rfl); (first | assumption | exact fv_int _ | exact fvc rfl); intro r n hr; (try rw [World.drewN_drewN]); simp only [Act.put, List.setIfInBounds_toArray, List.set_cons_zero, List.set_cons_succ])
      go_loopw [8, 9] (fun t i wr => ∃ k r : Nat, k ≤ 3 ∧ i = .int .i64 k ∧ t = .float .f64 r ∧ Fv .f64 r (itT (angT Cy Cx) k) ∧ ∃ n, wr = w.drewN n) (fun _ i _ => 3 - (intOf i).toNat)
      case atStart => exact ⟨0, _, by omega, rfl, rfl, by rw [itT, hT]; exact hr, _, rfl⟩
      case round =>
        clear hr
        obtain ⟨k, r, hk, rfl, rfl, hr, n, rfl⟩ := hrel
        by_cases hlt : k < 3
        · go_wp2_with (first | ((with_reducible apply upon_float_bin); exact rfl; (first | assumption | exact fv_int _ | exact fvc rfl); (first | assumption | exact fv_int _ | exact fvc rfl); intro r n hr; (try rw [World.drewN_drewN]); simp only [Act.put, List.setIfInBounds_toArray, List.set_cons_zero, List.set_cons_succ]) | (go_at_call 71; refine (c_math_Sqrt hr _).mono ?_; rintro e w' ⟨⟨r, rfl, hr⟩, m, rfl⟩))
          all_goals
            go_roundw
            case rel => exact ⟨k + 1, _, by omega, by go_num, rfl, hr, _, rfl⟩
            case measure => simp [intOf]; omega
        · obtain rfl : k = 3 := by omega
          generalize hTT : itT (angT Cy Cx) 3 = T at *
          have ht := hr
          go_wp2_with ((with_reducible apply upon_float_bin); exact rfl; (first | assumption | exact fv_int _ | exact fvc rfl); (first | assumption | exact fv_int _ | exact fvc rfl); intro r n hr; (try rw [World.drewN_drewN]); simp only [Act.put, List.setIfInBounds_toArray, List.set_cons_zero, List.set_cons_succ])
          have hu := hr
          go_loopw [11, 12] (fun p i wr => ∃ k r : Nat, k ≤ 8 ∧ i = .int .i64 (15 - 2 * (k : Int)) ∧ p = .float .f64 r ∧ Fv .f64 r (itP (M6 T T) k) ∧ ∃ n, wr = w.drewN n) (fun _ i _ => (intOf i + 1).toNat)
          case atStart => exact ⟨0, _, by omega, rfl, rfl, (fvc rfl : Fv .f64 0 (some 0)), _, rfl⟩
          case round =>
            clear hr
            obtain ⟨k, r, hk, rfl, rfl, hr, n, rfl⟩ := hrel
            by_cases hlt : k < 8
            · go_wp2_with ((with_reducible apply upon_float_bin); exact rfl; (first | assumption | exact fv_int _ | exact fvc rfl); (first | assumption | exact fv_int _ | exact fvc rfl); intro r n hr; (try rw [World.drewN_drewN]); simp only [Act.put, List.setIfInBounds_toArray, List.set_cons_zero, List.set_cons_succ])
              all_goals
                go_roundw
                case rel => exact ⟨k + 1, _, by omega, by go_num, rfl, hr, _, rfl⟩
                case measure => simp [intOf]; omega
            · obtain rfl : k = 8 := by omega
              have h0 : Fv .f64 r (itP (M6 T T) 8) := hr
              clear hr
              cases q2 : lt6 Cx <;> cases q3 : lt6 Cy <;> rw [q2] at ox <;> rw [q3] at oy <;> (
                go_wp2_with ((with_reducible apply upon_float_bin); exact rfl; (first | assumption | exact fv_int _ | exact fvc rfl); (first | assumption | exact fv_int _ | exact fvc rfl); intro r n hr; (try rw [World.drewN_drewN]); simp only [Act.put, List.setIfInBounds_toArray, List.set_cons_zero, List.set_cons_succ])
                go_ret
                refine ⟨⟨_, rfl, ?_⟩, _, rfl⟩
                simp only [ang3, ang2, ang1, q1, q2, q3, hTT]
                first | exact hr | exact Fv.neg hr)
    | true =>
      rw [q1] at oab
      have hT : angT Cy Cx = D6 (fabs .f64 Cx) (fabs .f64 Cy) := by unfold angT; rw [q1]
      go_wp2_with ((with_reducible apply upon_float_bin); exact rfl; (first | assumption | exact fv_int _ | exact fvc rfl); (first | assumption | exact fv_int _ | exact fvc rfl); intro r n hr; (try rw [World.drewN_drewN]); simp only [Act.put, List.setIfInBounds_toArray, List.set_cons_zero, List.set_cons_succ])
      go_loopw [8, 9] (fun t i wr => ∃ k r : Nat, k ≤ 3 ∧ i = .int .i64 k ∧ t = .float .f64 r ∧ Fv .f64 r (itT (angT Cy Cx) k) ∧ ∃ n, wr = w.drewN n) (fun _ i _ => 3 - (intOf i).toNat)
      case atStart => exact ⟨0, _, by omega, rfl, rfl, by rw [itT, hT]; exact hr, _, rfl⟩
      case round =>
        clear hr
        obtain ⟨k, r, hk, rfl, rfl, hr, n, rfl⟩ := hrel
        by_cases hlt : k < 3
        · go_wp2_with (first | ((with_reducible apply upon_float_bin); exact rfl; (first | assumption | exact fv_int _ | exact fvc rfl); (first | assumption | exact fv_int _ | exact fvc rfl); intro r n hr; (try rw [World.drewN_drewN]); simp only [Act.put, List.setIfInBounds_toArray, List.set_cons_zero, List.set_cons_succ]) | (go_at_call 71; refine (c_math_Sqrt hr _).mono ?_; rintro e w' ⟨⟨r, rfl, hr⟩, m, rfl⟩))
          all_goals
            go_roundw
            case rel => exact ⟨k + 1, _, by omega, by go_num, rfl, hr, _, rfl⟩
            case measure => simp [intOf]; omega
        · obtain rfl : k = 3 := by omega
          generalize hTT : itT (angT Cy Cx) 3 = T at *
          have ht := hr
          go_wp2_with ((with_reducible apply upon_float_bin); exact rfl; (first | assumption | exact fv_int _ | exact fvc rfl); (first | assumption | exact fv_int _ | exact fvc rfl); intro r n hr; (try rw [World.drewN_drewN]); simp only [Act.put, List.setIfInBounds_toArray, List.set_cons_zero, List.set_cons_succ])
          have hu := hr
          go_loopw [11, 12] (fun p i wr => ∃ k r : Nat, k ≤ 8 ∧ i = .int .i64 (15 - 2 * (k : Int)) ∧ p = .float .f64 r ∧ Fv .f64 r (itP (M6 T T) k) ∧ ∃ n, wr = w.drewN n) (fun _ i _ => (intOf i + 1).toNat)
          case atStart => exact ⟨0, _, by omega, rfl, rfl, (fvc rfl : Fv .f64 0 (some 0)), _, rfl⟩
          case round =>
            clear hr
            obtain ⟨k, r, hk, rfl, rfl, hr, n, rfl⟩ := hrel
            by_cases hlt : k < 8
            · go_wp2_with ((with_reducible apply upon_float_bin); exact rfl; (first | assumption | exact fv_int _ | exact fvc rfl); (first | assumption | exact fv_int _ | exact fvc rfl); intro r n hr; (try rw [World.drewN_drewN]); simp only [Act.put, List.setIfInBounds_toArray, List.set_cons_zero, List.set_cons_succ])
              all_goals
                go_roundw
                case rel => exact ⟨k + 1, _, by omega, by go_num, rfl, hr, _, rfl⟩
                case measure => simp [intOf]; omega
            · obtain rfl : k = 8 := by omega
              have h0 : Fv .f64 r (itP (M6 T T) 8) := hr
              clear hr
              cases q2 : lt6 Cx <;> cases q3 : lt6 Cy <;> rw [q2] at ox <;> rw [q3] at oy <;> (
                go_wp2_with ((with_reducible apply upon_float_bin); exact rfl; (first | assumption | exact fv_int _ | exact fvc rfl); (first | assumption | exact fv_int _ | exact fvc rfl); intro r n hr; (try rw [World.drewN_drewN]); simp only [Act.put, List.setIfInBounds_toArray, List.set_cons_zero, List.set_cons_succ])
                go_ret
                refine ⟨⟨_, rfl, ?_⟩, _, rfl⟩
                simp only [ang3, ang2, ang1, q1, q2, q3, hTT]
                first | exact hr | exact Fv.neg hr))

end Go.Proofs.Ytpfijbgkhekjfaa
