/-
  The sine of some turns, in 64 bits: the program's and the reference's do the same operations. No condition.
-/
import Derived.Test.YtpfijbgkhekjfabVi
import Derived.Test.YtpfijbgkhekjfabFt
set_option linter.unusedVariables false
namespace Go.Proofs.Ytpfijbgkhekjfab
open Go.RowKit Go.Proofs.Ytpfijbgkhekjfab.Fl

abbrev half6 : Option Nat := some 4602678819172646912
abbrev quarter6 : Option Nat := some 4598175219545276416
abbrev whole6 : Option Nat := some 4618760256179416344
def placesC (c : Option Nat) : Option Nat := match lt6 (fracC c) with
  | true => A6 (fracC c) one6
  | false => fracC c
def geH (f : Option Nat) : Bool := ford .f64 f half6 == some .gt || ford .f64 f half6 == some .eq
def sinF (f : Option Nat) : Option Nat := match geH f with
  | true => B6 f half6
  | false => f
def sinG (f : Option Nat) : Option Nat := match gt6 f quarter6 with
  | true => B6 half6 f
  | false => f
def coef (n : Nat) : Int := ((2 * (8 - n) * (2 * (8 - n) + 1) : Nat) : Int)
def itS (u : Option Nat) : Nat → Option Nat
  | 0 => one6
  | n + 1 => B6 one6 (D6 (M6 u (itS u n)) (some (FloatKind.f64.nearest (coef n))))
def sinP (z : Option Nat) : Option Nat := M6 z (itS (M6 z z) 8)
def sineC (f : Option Nat) : Option Nat := match geH f with
  | true => fneg .f64 (sinP (M6 (sinG (sinF f)) whole6))
  | false => sinP (M6 (sinG (sinF f)) whole6)
def bigB (c : Option Nat) : Bool := match c with
  | none => false
  | some b => decide (1075 * 2 ^ 52 ≤ rung Ieee.double b)
def wideSineC (c : Option Nat) : Option Nat := match finK .f64 c with
  | false => none
  | true => match bigB c with
    | true => some 0
    | false => sineC (placesC c)
/-- A float64 comes back, and nothing but draws. -/
def Ret6 (c : Option Nat) (w : World) (e : Ending) (w' : World) : Prop := (∃ r, e = .returned (.float .f64 r) ∧ Fv .f64 r c) ∧ ∃ n, w' = w.drewN n

/-! ### bounds -/
theorem bd_itS {u : Option Nat} (hu : Bd u 1035) : ∀ n, n ≤ 8 → Bd (itS u n) (1023 + 13 * n)
  | 0, _ => one_bd _ (by omega)
  | n + 1, h => by
    have ih := bd_itS hu n (by omega)
    have hc : coef n ≠ 0 := by
      unfold coef
      have : 2 * (8 - n) * (2 * (8 - n) + 1) ≠ 0 := Nat.mul_ne_zero (by omega) (by omega)
      omega
    have hc2 : (coef n).natAbs ≤ 2 ^ 17 := by
      unfold coef
      have : 2 * (8 - n) * (2 * (8 - n) + 1) ≤ 16 * 17 := Nat.mul_le_mul (by omega) (by omega)
      omega
    have hm : Bd (M6 u (itS u n)) (1035 + 13 * n) := Bd.mul (P := 1035) (Q := 1023 + 13 * n) (by omega) (by omega) (by omega) (by omega) (by omega) (by omega) hu ih
    have hq : Bd (D6 (M6 u (itS u n)) (some (FloatKind.f64.nearest (coef n)))) (1035 + 13 * n) :=
      Bd.quo (P := 1035 + 13 * n) (Q := 1023) (by omega) (by omega) (by omega) (by omega) (by omega) hm (lo_int hc) ((bd_int (P := 1040) (by omega) (Or.inr ⟨by omega, hc2⟩)).mono (by omega))
    exact (Bd.sub (P := 1035 + 13 * n) (by omega) (by omega) (one_bd _ (by omega)) hq).mono (by omega)

theorem bd_sinP {z : Option Nat} (hz : Bd z 1029) : Bd (sinP z) 1133 := by
  have hu : Bd (M6 z z) 1035 := Bd.mul (P := 1029) (Q := 1029) (by omega) (by omega) (by omega) (by omega) (by omega) (by omega) hz hz
  exact Bd.mul (P := 1029) (Q := 1127) (by omega) (by omega) (by omega) (by omega) (by omega) (by omega) hz (bd_itS hu 8 (by omega))

theorem bd_sine {f : Option Nat} (hf : Bd f 1024) : Bd (sineC f) 1133 := by
  have h1 : Bd (sinF f) 1025 := by
    unfold sinF
    cases geH f
    · exact hf.mono (by omega)
    · exact Bd.sub (P := 1024) (by omega) (by omega) hf (bd_const (by decide))
  have h2 : Bd (sinG (sinF f)) 1026 := by
    unfold sinG
    cases gt6 (sinF f) quarter6
    · exact h1.mono (by omega)
    · exact Bd.sub (P := 1025) (by omega) (by omega) (bd_const (by decide)) h1
  have h3 : Bd (M6 (sinG (sinF f)) whole6) 1029 := Bd.mul (P := 1026) (Q := 1026) (by omega) (by omega) (by omega) (by omega) (by omega) (by omega) h2 (bd_const (by decide))
  unfold sineC
  cases geH f
  · exact bd_sinP h3
  · exact bd_neg (fun b hb => fop_lt hb) (bd_sinP h3)

theorem fits_sine (c : Option Nat) : Fits .f64 .f32 (wideSineC c) := by
  unfold wideSineC
  cases finK .f64 c
  · exact fits_none _ _
  cases hb : bigB c
  · cases c with
    | none =>
      intro b h
      have e : sineC (placesC none) = none := by decide +kernel
      rw [e] at h
      cases h
    | some b =>
      have hb' : rung Ieee.double b < 1075 * 2 ^ 52 := by
        unfold bigB at hb
        simp only [decide_eq_false_iff_not] at hb
        omega
      have h1 := bd_frac hb'
      have h2 : Bd (placesC (some b)) 1024 := by
        unfold placesC
        cases lt6 (fracC (some b))
        · exact h1.mono (by omega)
        · exact Bd.add (P := 1023) (by omega) (by omega) h1 (one_bd _ (by omega))
      exact fits_narrow (P := 1133) (by omega) (bd_sine h2)
  · exact fits_narrow (P := 1023) (by omega) (bd_zero _)

/-! ### the whole part -/
theorem trunc_ext {x : Nat} (hf : rung Ieee.double x < Ieee.double.infRung) : Extern.MathFloor.toIntegral "math.archTrunc" .zero #[.float .f64 x] = pure (.float .f64 (tr x)) := by
  have h1 := encode_tr hf
  obtain ⟨m, p, hn⟩ := read_num Ieee.double hf
  have hd : FloatKind.f64.decode x = .number (sgn Ieee.double x) m (Ieee.double.leastPlace + (p : Int)) := hn.read
  rw [hd] at h1
  show (match FloatKind.f64.decode x with
    | .nan s t => (if FloatKind.f64.format.quiet t = t then (pure (.float .f64 x) : Sem Value) else do
      let kept ← choose (.extern "math.Floor,Ceil,Trunc,RoundToEven.signallingNaN kept" 2)
      pure (.float .f64 (if kept == 1 then x else FloatKind.f64.encode (.nan s (FloatKind.f64.format.quiet t)))))
    | d => pure (.float .f64 (FloatKind.f64.encode (d.integral .zero)))) = _
  rw [hd]
  show (pure (Value.float .f64 (FloatKind.f64.encode _)) : Sem Value) = _
  rw [h1]

theorem run_archTrunc {x : Nat} (hf : rung Ieee.double x < Ieee.double.infRung) (w : World) : (callFunc 45 #[.float .f64 x]).run Try.prog w = .ok (.value (.float .f64 (tr x))) w := by
  rw [run_callFunc_extern Try.func45 (by kernel_rfl) (by kernel_rfl) (by kernel_rfl) (e := Extern.MathFloor.toIntegral "math.archTrunc" .zero) (by kernel_rfl), trunc_ext hf]
  rfl

theorem c_math_Trunc {x : Nat} (hf : rung Ieee.double x < Ieee.double.infRung) (w : World) :
    Calls Try.prog 44 #[.float .f64 x] w fun e w' => e = .returned (.float .f64 (tr x)) ∧ w = w' := by
  have hr := fun w => run_archTrunc hf w
  clear hf
  go_enter Try.func44, Try.ntmps44
  go_wp2
  go_ret
  exact ⟨rfl, rfl⟩

theorem c_impl_placesOf {x : Nat} (h : Fv .f64 x (some x)) (hb : rung Ieee.double x < 1075 * 2 ^ 52) (w : World) :
    Calls Try.prog 42 #[.float .f64 x] w (Ret6 (placesC (some x)) w) := by
  have hf : rung Ieee.double x < Ieee.double.infRung := Nat.lt_of_lt_of_le hb (by decide)
  have hz : (FloatKind.f64.format.order (tr x) 0 == some .eq) = decide (wholeN x = 0) := by rw [order_fv (fv_tr x) (fvc rfl : Fv .f64 0 (some 0))]; exact tr_zero x
  by_cases h0 : wholeN x = 0
  · rw [decide_eq_true h0] at hz
    have hz' : (FloatKind.f64.format.order (tr x) 0 != some .eq) = false := by rw [bne, hz]; rfl
    have hF : fracC (some x) = some x := if_pos h0
    have ol : (FloatKind.f64.format.order x 0 == some .lt) = lt6 (fracC (some x)) := by rw [hF, order_fv h (fvc rfl : Fv .f64 0 (some 0))]; rfl
    have HF := Lib.hid (And.intro hF (And.intro h0 (And.intro hb hf)))
    clear hF h0 hb hf
    cases q : lt6 (fracC (some x)) with
    | false =>
      have e : placesC (some x) = some x := by unfold placesC; rw [q]; exact HF.out.1
      rw [e]; clear e
      rw [q] at ol; clear q
      go_enter Try.func42, Try.ntmps42
      go_wp2_with (go_at_call 44; refine (c_math_Trunc HF.out.2.2.2 _).mono ?_; rintro e w' ⟨rfl, rfl⟩)
      go_ret
      exact ⟨⟨_, rfl, h⟩, 0, rfl⟩
    | true =>
      have e : placesC (some x) = A6 (some x) one6 := by unfold placesC; rw [q, HF.out.1]
      rw [e]; clear e
      rw [q] at ol; clear q
      go_enter Try.func42, Try.ntmps42
      go_wp2_with (go_at_call 44; refine (c_math_Trunc HF.out.2.2.2 _).mono ?_; rintro e w' ⟨rfl, rfl⟩)
      (with_reducible apply upon_float_bin); exact rfl; exact h; exact (fvc rfl : Fv .f64 4607182418800017408 (some 4607182418800017408)); intro r nr hr; (try rw [World.drewN_drewN]); simp only [Act.put, List.setIfInBounds_toArray, List.set_cons_zero, List.set_cons_succ]
      go_wp2_with fail
      go_ret
      exact ⟨⟨_, rfl, hr⟩, _, rfl⟩
  · rw [decide_eq_false h0] at hz
    have hz' : (FloatKind.f64.format.order (tr x) 0 != some .eq) = true := by rw [bne, hz]; rfl
    have hF : fracC (some x) = B6 (some x) (some (tr x)) := if_neg h0
    have HF := Lib.hid (And.intro hF (And.intro h0 (And.intro hb hf)))
    clear hF h0 hb hf
    have ht := fv_tr x
    go_enter Try.func42, Try.ntmps42
    go_wp2_with fail
    refine (c_math_Trunc HF.out.2.2.2 _).mono ?_; rintro e w' ⟨rfl, rfl⟩
    go_wp2_with fail
    (with_reducible apply upon_float_bin); exact rfl; exact h; exact ht; intro r n hr; (try rw [World.drewN_drewN]); simp only [Act.put, List.setIfInBounds_toArray, List.set_cons_zero, List.set_cons_succ]
    replace hr : Fv .f64 r (fracC (some x)) := by rw [HF.out.1]; exact hr
    have ol : (FloatKind.f64.format.order r 0 == some .lt) = lt6 (fracC (some x)) := by rw [order_fv hr (fvc rfl : Fv .f64 0 (some 0))]; rfl
    cases q : lt6 (fracC (some x)) with
    | false =>
      have HE := Lib.hid (show placesC (some x) = fracC (some x) by unfold placesC; rw [q])
      rw [q] at ol; clear q
      go_wp2_with fail
      go_ret
      exact ⟨⟨_, rfl, by rw [HE.out]; exact hr⟩, _, rfl⟩
    | true =>
      have HE := Lib.hid (show placesC (some x) = A6 (fracC (some x)) one6 by unfold placesC; rw [q])
      rw [q] at ol; clear q
      go_wp2_with fail
      (with_reducible apply upon_float_bin); exact rfl; exact hr; exact (fvc rfl : Fv .f64 4607182418800017408 (some 4607182418800017408)); intro r2 nr2 hr2; (try rw [World.drewN_drewN]); simp only [Act.put, List.setIfInBounds_toArray, List.set_cons_zero, List.set_cons_succ]
      go_wp2_with fail
      go_ret
      exact ⟨⟨_, rfl, by rw [HE.out]; exact hr2⟩, _, rfl⟩

set_option maxHeartbeats 16000000 in
theorem c_impl_sine {x : Nat} (h : Fv .f64 x (some x)) (hb : rung Ieee.double x < 1075 * 2 ^ 52) (w : World) :
    Calls Try.prog 38 #[.float .f64 x] w (Ret6 (sineC (placesC (some x))) w) := by
  have hneg := neg_run6
  generalize hF : placesC (some x) = F
  have HP := fun w => c_impl_placesOf h hb w
  rw [hF] at HP
  clear hF hb h
  go_enter Try.func38, Try.ntmps38
  go_wp2_with fail
  refine (HP _).mono ?_; rintro e w' ⟨⟨r0, rfl, hr0⟩, n0, rfl⟩
  clear HP
  have ogt : (FloatKind.f64.format.order r0 4602678819172646912 == some .gt || FloatKind.f64.format.order r0 4602678819172646912 == some .eq) = geH F := by rw [order_fv hr0 (fvc rfl : Fv .f64 4602678819172646912 (some 4602678819172646912))]; rfl
  cases q1 : geH F with
  | false =>
    rw [q1] at ogt
    have og : (FloatKind.f64.format.order r0 4598175219545276416 == some .gt) = gt6 (F) quarter6 := by rw [order_fv hr0 (fvc rfl : Fv .f64 4598175219545276416 (some 4598175219545276416))]; rfl
    cases q2 : gt6 (F) quarter6 with
    | false =>
      rw [q2] at og
      go_wp2_with fail
      (with_reducible apply upon_float_bin); exact rfl; exact hr0; exact (fvc rfl : Fv .f64 4618760256179416344 (some 4618760256179416344)); intro z nz hz; (try rw [World.drewN_drewN]); simp only [Act.put, List.setIfInBounds_toArray, List.set_cons_zero, List.set_cons_succ]
      obtain ⟨Z, hZ⟩ : ∃ Z, Z = M6 (F) whole6 := ⟨_, rfl⟩
      replace hz : Fv .f64 z Z := by rw [hZ]; exact hz
      have HC := Lib.hid (show sineC F = M6 Z (itS (M6 Z Z) 8) by rw [hZ]; simp only [sineC, sinF, sinG, sinP, q1, q2])
      clear hZ
      go_wp2_with fail
      (with_reducible apply upon_float_bin); exact rfl; exact hz; exact hz; intro u nu hu; (try rw [World.drewN_drewN]); simp only [Act.put, List.setIfInBounds_toArray, List.set_cons_zero, List.set_cons_succ]
      go_wp2_with fail
      go_loopw [7, 8] (fun pp i wr => ∃ j r : Nat, j ≤ 8 ∧ i = .int .i64 j ∧ pp = .float .f64 r ∧ Fv .f64 r (itS (M6 Z Z) (8 - j)) ∧ ∃ n, wr = w.drewN n) (fun _ i _ => (intOf i).toNat)
      case atStart => exact ⟨8, _, by omega, rfl, rfl, (fvc rfl : Fv .f64 4607182418800017408 (some 4607182418800017408)), _, rfl⟩
      case round =>
        obtain ⟨j, rp, hj, rfl, rfl, hp, n, rfl⟩ := hrel
        have hcase : j = 0 ∨ j = 1 ∨ j = 2 ∨ j = 3 ∨ j = 4 ∨ j = 5 ∨ j = 6 ∨ j = 7 ∨ j = 8 := by omega
        clear hj
        rcases hcase with rfl | rfl | rfl | rfl | rfl | rfl | rfl | rfl | rfl
        · go_wp2_with fail
          (with_reducible apply upon_float_bin); exact rfl; exact hz; exact hp; intro v nv hv; (try rw [World.drewN_drewN]); simp only [Act.put, List.setIfInBounds_toArray, List.set_cons_zero, List.set_cons_succ]
          go_wp2_with fail
          go_ret
          refine ⟨⟨_, rfl, ?_⟩, _, rfl⟩
          rw [HC.out]
          exact hv
        · go_wp2_with fail
          (with_reducible apply upon_float_bin); exact rfl; exact hu; exact hp; intro a na ha; (try rw [World.drewN_drewN]); simp only [Act.put, List.setIfInBounds_toArray, List.set_cons_zero, List.set_cons_succ]
          go_wp2_with fail
          (with_reducible apply upon_float_bin); exact rfl; exact ha; exact (fv_int 6); intro b nb hb; (try rw [World.drewN_drewN]); simp only [Act.put, List.setIfInBounds_toArray, List.set_cons_zero, List.set_cons_succ]
          go_wp2_with fail
          (with_reducible apply upon_float_bin); exact rfl; exact (fvc rfl : Fv .f64 4607182418800017408 (some 4607182418800017408)); exact hb; intro c nc hc; (try rw [World.drewN_drewN]); simp only [Act.put, List.setIfInBounds_toArray, List.set_cons_zero, List.set_cons_succ]
          go_wp2_with fail
          go_roundw
          case rel => exact ⟨0, _, by omega, by go_num, rfl, hc, _, rfl⟩
          case measure => simp [intOf]
        · go_wp2_with fail
          (with_reducible apply upon_float_bin); exact rfl; exact hu; exact hp; intro a na ha; (try rw [World.drewN_drewN]); simp only [Act.put, List.setIfInBounds_toArray, List.set_cons_zero, List.set_cons_succ]
          go_wp2_with fail
          (with_reducible apply upon_float_bin); exact rfl; exact ha; exact (fv_int 20); intro b nb hb; (try rw [World.drewN_drewN]); simp only [Act.put, List.setIfInBounds_toArray, List.set_cons_zero, List.set_cons_succ]
          go_wp2_with fail
          (with_reducible apply upon_float_bin); exact rfl; exact (fvc rfl : Fv .f64 4607182418800017408 (some 4607182418800017408)); exact hb; intro c nc hc; (try rw [World.drewN_drewN]); simp only [Act.put, List.setIfInBounds_toArray, List.set_cons_zero, List.set_cons_succ]
          go_wp2_with fail
          go_roundw
          case rel => exact ⟨1, _, by omega, by go_num, rfl, hc, _, rfl⟩
          case measure => simp [intOf]
        · go_wp2_with fail
          (with_reducible apply upon_float_bin); exact rfl; exact hu; exact hp; intro a na ha; (try rw [World.drewN_drewN]); simp only [Act.put, List.setIfInBounds_toArray, List.set_cons_zero, List.set_cons_succ]
          go_wp2_with fail
          (with_reducible apply upon_float_bin); exact rfl; exact ha; exact (fv_int 42); intro b nb hb; (try rw [World.drewN_drewN]); simp only [Act.put, List.setIfInBounds_toArray, List.set_cons_zero, List.set_cons_succ]
          go_wp2_with fail
          (with_reducible apply upon_float_bin); exact rfl; exact (fvc rfl : Fv .f64 4607182418800017408 (some 4607182418800017408)); exact hb; intro c nc hc; (try rw [World.drewN_drewN]); simp only [Act.put, List.setIfInBounds_toArray, List.set_cons_zero, List.set_cons_succ]
          go_wp2_with fail
          go_roundw
          case rel => exact ⟨2, _, by omega, by go_num, rfl, hc, _, rfl⟩
          case measure => simp [intOf]
        · go_wp2_with fail
          (with_reducible apply upon_float_bin); exact rfl; exact hu; exact hp; intro a na ha; (try rw [World.drewN_drewN]); simp only [Act.put, List.setIfInBounds_toArray, List.set_cons_zero, List.set_cons_succ]
          go_wp2_with fail
          (with_reducible apply upon_float_bin); exact rfl; exact ha; exact (fv_int 72); intro b nb hb; (try rw [World.drewN_drewN]); simp only [Act.put, List.setIfInBounds_toArray, List.set_cons_zero, List.set_cons_succ]
          go_wp2_with fail
          (with_reducible apply upon_float_bin); exact rfl; exact (fvc rfl : Fv .f64 4607182418800017408 (some 4607182418800017408)); exact hb; intro c nc hc; (try rw [World.drewN_drewN]); simp only [Act.put, List.setIfInBounds_toArray, List.set_cons_zero, List.set_cons_succ]
          go_wp2_with fail
          go_roundw
          case rel => exact ⟨3, _, by omega, by go_num, rfl, hc, _, rfl⟩
          case measure => simp [intOf]
        · go_wp2_with fail
          (with_reducible apply upon_float_bin); exact rfl; exact hu; exact hp; intro a na ha; (try rw [World.drewN_drewN]); simp only [Act.put, List.setIfInBounds_toArray, List.set_cons_zero, List.set_cons_succ]
          go_wp2_with fail
          (with_reducible apply upon_float_bin); exact rfl; exact ha; exact (fv_int 110); intro b nb hb; (try rw [World.drewN_drewN]); simp only [Act.put, List.setIfInBounds_toArray, List.set_cons_zero, List.set_cons_succ]
          go_wp2_with fail
          (with_reducible apply upon_float_bin); exact rfl; exact (fvc rfl : Fv .f64 4607182418800017408 (some 4607182418800017408)); exact hb; intro c nc hc; (try rw [World.drewN_drewN]); simp only [Act.put, List.setIfInBounds_toArray, List.set_cons_zero, List.set_cons_succ]
          go_wp2_with fail
          go_roundw
          case rel => exact ⟨4, _, by omega, by go_num, rfl, hc, _, rfl⟩
          case measure => simp [intOf]
        · go_wp2_with fail
          (with_reducible apply upon_float_bin); exact rfl; exact hu; exact hp; intro a na ha; (try rw [World.drewN_drewN]); simp only [Act.put, List.setIfInBounds_toArray, List.set_cons_zero, List.set_cons_succ]
          go_wp2_with fail
          (with_reducible apply upon_float_bin); exact rfl; exact ha; exact (fv_int 156); intro b nb hb; (try rw [World.drewN_drewN]); simp only [Act.put, List.setIfInBounds_toArray, List.set_cons_zero, List.set_cons_succ]
          go_wp2_with fail
          (with_reducible apply upon_float_bin); exact rfl; exact (fvc rfl : Fv .f64 4607182418800017408 (some 4607182418800017408)); exact hb; intro c nc hc; (try rw [World.drewN_drewN]); simp only [Act.put, List.setIfInBounds_toArray, List.set_cons_zero, List.set_cons_succ]
          go_wp2_with fail
          go_roundw
          case rel => exact ⟨5, _, by omega, by go_num, rfl, hc, _, rfl⟩
          case measure => simp [intOf]
        · go_wp2_with fail
          (with_reducible apply upon_float_bin); exact rfl; exact hu; exact hp; intro a na ha; (try rw [World.drewN_drewN]); simp only [Act.put, List.setIfInBounds_toArray, List.set_cons_zero, List.set_cons_succ]
          go_wp2_with fail
          (with_reducible apply upon_float_bin); exact rfl; exact ha; exact (fv_int 210); intro b nb hb; (try rw [World.drewN_drewN]); simp only [Act.put, List.setIfInBounds_toArray, List.set_cons_zero, List.set_cons_succ]
          go_wp2_with fail
          (with_reducible apply upon_float_bin); exact rfl; exact (fvc rfl : Fv .f64 4607182418800017408 (some 4607182418800017408)); exact hb; intro c nc hc; (try rw [World.drewN_drewN]); simp only [Act.put, List.setIfInBounds_toArray, List.set_cons_zero, List.set_cons_succ]
          go_wp2_with fail
          go_roundw
          case rel => exact ⟨6, _, by omega, by go_num, rfl, hc, _, rfl⟩
          case measure => simp [intOf]
        · go_wp2_with fail
          (with_reducible apply upon_float_bin); exact rfl; exact hu; exact hp; intro a na ha; (try rw [World.drewN_drewN]); simp only [Act.put, List.setIfInBounds_toArray, List.set_cons_zero, List.set_cons_succ]
          go_wp2_with fail
          (with_reducible apply upon_float_bin); exact rfl; exact ha; exact (fv_int 272); intro b nb hb; (try rw [World.drewN_drewN]); simp only [Act.put, List.setIfInBounds_toArray, List.set_cons_zero, List.set_cons_succ]
          go_wp2_with fail
          (with_reducible apply upon_float_bin); exact rfl; exact (fvc rfl : Fv .f64 4607182418800017408 (some 4607182418800017408)); exact hb; intro c nc hc; (try rw [World.drewN_drewN]); simp only [Act.put, List.setIfInBounds_toArray, List.set_cons_zero, List.set_cons_succ]
          go_wp2_with fail
          go_roundw
          case rel => exact ⟨7, _, by omega, by go_num, rfl, hc, _, rfl⟩
          case measure => simp [intOf]
    | true =>
      rw [q2] at og
      go_wp2_with fail
      (with_reducible apply upon_float_bin); exact rfl; exact (fvc rfl : Fv .f64 4602678819172646912 (some 4602678819172646912)); exact hr0; intro r2 nr2 hr2; (try rw [World.drewN_drewN]); simp only [Act.put, List.setIfInBounds_toArray, List.set_cons_zero, List.set_cons_succ]
      go_wp2_with fail
      (with_reducible apply upon_float_bin); exact rfl; exact hr2; exact (fvc rfl : Fv .f64 4618760256179416344 (some 4618760256179416344)); intro z nz hz; (try rw [World.drewN_drewN]); simp only [Act.put, List.setIfInBounds_toArray, List.set_cons_zero, List.set_cons_succ]
      obtain ⟨Z, hZ⟩ : ∃ Z, Z = M6 (B6 half6 (F)) whole6 := ⟨_, rfl⟩
      replace hz : Fv .f64 z Z := by rw [hZ]; exact hz
      have HC := Lib.hid (show sineC F = M6 Z (itS (M6 Z Z) 8) by rw [hZ]; simp only [sineC, sinF, sinG, sinP, q1, q2])
      clear hZ
      go_wp2_with fail
      (with_reducible apply upon_float_bin); exact rfl; exact hz; exact hz; intro u nu hu; (try rw [World.drewN_drewN]); simp only [Act.put, List.setIfInBounds_toArray, List.set_cons_zero, List.set_cons_succ]
      go_wp2_with fail
      go_loopw [7, 8] (fun pp i wr => ∃ j r : Nat, j ≤ 8 ∧ i = .int .i64 j ∧ pp = .float .f64 r ∧ Fv .f64 r (itS (M6 Z Z) (8 - j)) ∧ ∃ n, wr = w.drewN n) (fun _ i _ => (intOf i).toNat)
      case atStart => exact ⟨8, _, by omega, rfl, rfl, (fvc rfl : Fv .f64 4607182418800017408 (some 4607182418800017408)), _, rfl⟩
      case round =>
        obtain ⟨j, rp, hj, rfl, rfl, hp, n, rfl⟩ := hrel
        have hcase : j = 0 ∨ j = 1 ∨ j = 2 ∨ j = 3 ∨ j = 4 ∨ j = 5 ∨ j = 6 ∨ j = 7 ∨ j = 8 := by omega
        clear hj
        rcases hcase with rfl | rfl | rfl | rfl | rfl | rfl | rfl | rfl | rfl
        · go_wp2_with fail
          (with_reducible apply upon_float_bin); exact rfl; exact hz; exact hp; intro v nv hv; (try rw [World.drewN_drewN]); simp only [Act.put, List.setIfInBounds_toArray, List.set_cons_zero, List.set_cons_succ]
          go_wp2_with fail
          go_ret
          refine ⟨⟨_, rfl, ?_⟩, _, rfl⟩
          rw [HC.out]
          exact hv
        · go_wp2_with fail
          (with_reducible apply upon_float_bin); exact rfl; exact hu; exact hp; intro a na ha; (try rw [World.drewN_drewN]); simp only [Act.put, List.setIfInBounds_toArray, List.set_cons_zero, List.set_cons_succ]
          go_wp2_with fail
          (with_reducible apply upon_float_bin); exact rfl; exact ha; exact (fv_int 6); intro b nb hb; (try rw [World.drewN_drewN]); simp only [Act.put, List.setIfInBounds_toArray, List.set_cons_zero, List.set_cons_succ]
          go_wp2_with fail
          (with_reducible apply upon_float_bin); exact rfl; exact (fvc rfl : Fv .f64 4607182418800017408 (some 4607182418800017408)); exact hb; intro c nc hc; (try rw [World.drewN_drewN]); simp only [Act.put, List.setIfInBounds_toArray, List.set_cons_zero, List.set_cons_succ]
          go_wp2_with fail
          go_roundw
          case rel => exact ⟨0, _, by omega, by go_num, rfl, hc, _, rfl⟩
          case measure => simp [intOf]
        · go_wp2_with fail
          (with_reducible apply upon_float_bin); exact rfl; exact hu; exact hp; intro a na ha; (try rw [World.drewN_drewN]); simp only [Act.put, List.setIfInBounds_toArray, List.set_cons_zero, List.set_cons_succ]
          go_wp2_with fail
          (with_reducible apply upon_float_bin); exact rfl; exact ha; exact (fv_int 20); intro b nb hb; (try rw [World.drewN_drewN]); simp only [Act.put, List.setIfInBounds_toArray, List.set_cons_zero, List.set_cons_succ]
          go_wp2_with fail
          (with_reducible apply upon_float_bin); exact rfl; exact (fvc rfl : Fv .f64 4607182418800017408 (some 4607182418800017408)); exact hb; intro c nc hc; (try rw [World.drewN_drewN]); simp only [Act.put, List.setIfInBounds_toArray, List.set_cons_zero, List.set_cons_succ]
          go_wp2_with fail
          go_roundw
          case rel => exact ⟨1, _, by omega, by go_num, rfl, hc, _, rfl⟩
          case measure => simp [intOf]
        · go_wp2_with fail
          (with_reducible apply upon_float_bin); exact rfl; exact hu; exact hp; intro a na ha; (try rw [World.drewN_drewN]); simp only [Act.put, List.setIfInBounds_toArray, List.set_cons_zero, List.set_cons_succ]
          go_wp2_with fail
          (with_reducible apply upon_float_bin); exact rfl; exact ha; exact (fv_int 42); intro b nb hb; (try rw [World.drewN_drewN]); simp only [Act.put, List.setIfInBounds_toArray, List.set_cons_zero, List.set_cons_succ]
          go_wp2_with fail
          (with_reducible apply upon_float_bin); exact rfl; exact (fvc rfl : Fv .f64 4607182418800017408 (some 4607182418800017408)); exact hb; intro c nc hc; (try rw [World.drewN_drewN]); simp only [Act.put, List.setIfInBounds_toArray, List.set_cons_zero, List.set_cons_succ]
          go_wp2_with fail
          go_roundw
          case rel => exact ⟨2, _, by omega, by go_num, rfl, hc, _, rfl⟩
          case measure => simp [intOf]
        · go_wp2_with fail
          (with_reducible apply upon_float_bin); exact rfl; exact hu; exact hp; intro a na ha; (try rw [World.drewN_drewN]); simp only [Act.put, List.setIfInBounds_toArray, List.set_cons_zero, List.set_cons_succ]
          go_wp2_with fail
          (with_reducible apply upon_float_bin); exact rfl; exact ha; exact (fv_int 72); intro b nb hb; (try rw [World.drewN_drewN]); simp only [Act.put, List.setIfInBounds_toArray, List.set_cons_zero, List.set_cons_succ]
          go_wp2_with fail
          (with_reducible apply upon_float_bin); exact rfl; exact (fvc rfl : Fv .f64 4607182418800017408 (some 4607182418800017408)); exact hb; intro c nc hc; (try rw [World.drewN_drewN]); simp only [Act.put, List.setIfInBounds_toArray, List.set_cons_zero, List.set_cons_succ]
          go_wp2_with fail
          go_roundw
          case rel => exact ⟨3, _, by omega, by go_num, rfl, hc, _, rfl⟩
          case measure => simp [intOf]
        · go_wp2_with fail
          (with_reducible apply upon_float_bin); exact rfl; exact hu; exact hp; intro a na ha; (try rw [World.drewN_drewN]); simp only [Act.put, List.setIfInBounds_toArray, List.set_cons_zero, List.set_cons_succ]
          go_wp2_with fail
          (with_reducible apply upon_float_bin); exact rfl; exact ha; exact (fv_int 110); intro b nb hb; (try rw [World.drewN_drewN]); simp only [Act.put, List.setIfInBounds_toArray, List.set_cons_zero, List.set_cons_succ]
          go_wp2_with fail
          (with_reducible apply upon_float_bin); exact rfl; exact (fvc rfl : Fv .f64 4607182418800017408 (some 4607182418800017408)); exact hb; intro c nc hc; (try rw [World.drewN_drewN]); simp only [Act.put, List.setIfInBounds_toArray, List.set_cons_zero, List.set_cons_succ]
          go_wp2_with fail
          go_roundw
          case rel => exact ⟨4, _, by omega, by go_num, rfl, hc, _, rfl⟩
          case measure => simp [intOf]
        · go_wp2_with fail
          (with_reducible apply upon_float_bin); exact rfl; exact hu; exact hp; intro a na ha; (try rw [World.drewN_drewN]); simp only [Act.put, List.setIfInBounds_toArray, List.set_cons_zero, List.set_cons_succ]
          go_wp2_with fail
          (with_reducible apply upon_float_bin); exact rfl; exact ha; exact (fv_int 156); intro b nb hb; (try rw [World.drewN_drewN]); simp only [Act.put, List.setIfInBounds_toArray, List.set_cons_zero, List.set_cons_succ]
          go_wp2_with fail
          (with_reducible apply upon_float_bin); exact rfl; exact (fvc rfl : Fv .f64 4607182418800017408 (some 4607182418800017408)); exact hb; intro c nc hc; (try rw [World.drewN_drewN]); simp only [Act.put, List.setIfInBounds_toArray, List.set_cons_zero, List.set_cons_succ]
          go_wp2_with fail
          go_roundw
          case rel => exact ⟨5, _, by omega, by go_num, rfl, hc, _, rfl⟩
          case measure => simp [intOf]
        · go_wp2_with fail
          (with_reducible apply upon_float_bin); exact rfl; exact hu; exact hp; intro a na ha; (try rw [World.drewN_drewN]); simp only [Act.put, List.setIfInBounds_toArray, List.set_cons_zero, List.set_cons_succ]
          go_wp2_with fail
          (with_reducible apply upon_float_bin); exact rfl; exact ha; exact (fv_int 210); intro b nb hb; (try rw [World.drewN_drewN]); simp only [Act.put, List.setIfInBounds_toArray, List.set_cons_zero, List.set_cons_succ]
          go_wp2_with fail
          (with_reducible apply upon_float_bin); exact rfl; exact (fvc rfl : Fv .f64 4607182418800017408 (some 4607182418800017408)); exact hb; intro c nc hc; (try rw [World.drewN_drewN]); simp only [Act.put, List.setIfInBounds_toArray, List.set_cons_zero, List.set_cons_succ]
          go_wp2_with fail
          go_roundw
          case rel => exact ⟨6, _, by omega, by go_num, rfl, hc, _, rfl⟩
          case measure => simp [intOf]
        · go_wp2_with fail
          (with_reducible apply upon_float_bin); exact rfl; exact hu; exact hp; intro a na ha; (try rw [World.drewN_drewN]); simp only [Act.put, List.setIfInBounds_toArray, List.set_cons_zero, List.set_cons_succ]
          go_wp2_with fail
          (with_reducible apply upon_float_bin); exact rfl; exact ha; exact (fv_int 272); intro b nb hb; (try rw [World.drewN_drewN]); simp only [Act.put, List.setIfInBounds_toArray, List.set_cons_zero, List.set_cons_succ]
          go_wp2_with fail
          (with_reducible apply upon_float_bin); exact rfl; exact (fvc rfl : Fv .f64 4607182418800017408 (some 4607182418800017408)); exact hb; intro c nc hc; (try rw [World.drewN_drewN]); simp only [Act.put, List.setIfInBounds_toArray, List.set_cons_zero, List.set_cons_succ]
          go_wp2_with fail
          go_roundw
          case rel => exact ⟨7, _, by omega, by go_num, rfl, hc, _, rfl⟩
          case measure => simp [intOf]
  | true =>
    rw [q1] at ogt
    go_wp2_with fail
    (with_reducible apply upon_float_bin); exact rfl; exact hr0; exact (fvc rfl : Fv .f64 4602678819172646912 (some 4602678819172646912)); intro r1 nr1 hr1; (try rw [World.drewN_drewN]); simp only [Act.put, List.setIfInBounds_toArray, List.set_cons_zero, List.set_cons_succ]
    have og : (FloatKind.f64.format.order r1 4598175219545276416 == some .gt) = gt6 (B6 F half6) quarter6 := by rw [order_fv hr1 (fvc rfl : Fv .f64 4598175219545276416 (some 4598175219545276416))]; rfl
    cases q2 : gt6 (B6 F half6) quarter6 with
    | false =>
      rw [q2] at og
      go_wp2_with fail
      (with_reducible apply upon_float_bin); exact rfl; exact hr1; exact (fvc rfl : Fv .f64 4618760256179416344 (some 4618760256179416344)); intro z nz hz; (try rw [World.drewN_drewN]); simp only [Act.put, List.setIfInBounds_toArray, List.set_cons_zero, List.set_cons_succ]
      obtain ⟨Z, hZ⟩ : ∃ Z, Z = M6 (B6 F half6) whole6 := ⟨_, rfl⟩
      replace hz : Fv .f64 z Z := by rw [hZ]; exact hz
      have HC := Lib.hid (show sineC F = fneg .f64 (M6 Z (itS (M6 Z Z) 8)) by rw [hZ]; simp only [sineC, sinF, sinG, sinP, q1, q2])
      clear hZ
      go_wp2_with fail
      (with_reducible apply upon_float_bin); exact rfl; exact hz; exact hz; intro u nu hu; (try rw [World.drewN_drewN]); simp only [Act.put, List.setIfInBounds_toArray, List.set_cons_zero, List.set_cons_succ]
      go_wp2_with fail
      go_loopw [7, 8] (fun pp i wr => ∃ j r : Nat, j ≤ 8 ∧ i = .int .i64 j ∧ pp = .float .f64 r ∧ Fv .f64 r (itS (M6 Z Z) (8 - j)) ∧ ∃ n, wr = w.drewN n) (fun _ i _ => (intOf i).toNat)
      case atStart => exact ⟨8, _, by omega, rfl, rfl, (fvc rfl : Fv .f64 4607182418800017408 (some 4607182418800017408)), _, rfl⟩
      case round =>
        obtain ⟨j, rp, hj, rfl, rfl, hp, n, rfl⟩ := hrel
        have hcase : j = 0 ∨ j = 1 ∨ j = 2 ∨ j = 3 ∨ j = 4 ∨ j = 5 ∨ j = 6 ∨ j = 7 ∨ j = 8 := by omega
        clear hj
        rcases hcase with rfl | rfl | rfl | rfl | rfl | rfl | rfl | rfl | rfl
        · go_wp2_with fail
          (with_reducible apply upon_float_bin); exact rfl; exact hz; exact hp; intro v nv hv; (try rw [World.drewN_drewN]); simp only [Act.put, List.setIfInBounds_toArray, List.set_cons_zero, List.set_cons_succ]
          go_wp2_with fail
          go_ret
          refine ⟨⟨_, rfl, ?_⟩, _, rfl⟩
          rw [HC.out]
          exact Fv.neg hv
        · go_wp2_with fail
          (with_reducible apply upon_float_bin); exact rfl; exact hu; exact hp; intro a na ha; (try rw [World.drewN_drewN]); simp only [Act.put, List.setIfInBounds_toArray, List.set_cons_zero, List.set_cons_succ]
          go_wp2_with fail
          (with_reducible apply upon_float_bin); exact rfl; exact ha; exact (fv_int 6); intro b nb hb; (try rw [World.drewN_drewN]); simp only [Act.put, List.setIfInBounds_toArray, List.set_cons_zero, List.set_cons_succ]
          go_wp2_with fail
          (with_reducible apply upon_float_bin); exact rfl; exact (fvc rfl : Fv .f64 4607182418800017408 (some 4607182418800017408)); exact hb; intro c nc hc; (try rw [World.drewN_drewN]); simp only [Act.put, List.setIfInBounds_toArray, List.set_cons_zero, List.set_cons_succ]
          go_wp2_with fail
          go_roundw
          case rel => exact ⟨0, _, by omega, by go_num, rfl, hc, _, rfl⟩
          case measure => simp [intOf]
        · go_wp2_with fail
          (with_reducible apply upon_float_bin); exact rfl; exact hu; exact hp; intro a na ha; (try rw [World.drewN_drewN]); simp only [Act.put, List.setIfInBounds_toArray, List.set_cons_zero, List.set_cons_succ]
          go_wp2_with fail
          (with_reducible apply upon_float_bin); exact rfl; exact ha; exact (fv_int 20); intro b nb hb; (try rw [World.drewN_drewN]); simp only [Act.put, List.setIfInBounds_toArray, List.set_cons_zero, List.set_cons_succ]
          go_wp2_with fail
          (with_reducible apply upon_float_bin); exact rfl; exact (fvc rfl : Fv .f64 4607182418800017408 (some 4607182418800017408)); exact hb; intro c nc hc; (try rw [World.drewN_drewN]); simp only [Act.put, List.setIfInBounds_toArray, List.set_cons_zero, List.set_cons_succ]
          go_wp2_with fail
          go_roundw
          case rel => exact ⟨1, _, by omega, by go_num, rfl, hc, _, rfl⟩
          case measure => simp [intOf]
        · go_wp2_with fail
          (with_reducible apply upon_float_bin); exact rfl; exact hu; exact hp; intro a na ha; (try rw [World.drewN_drewN]); simp only [Act.put, List.setIfInBounds_toArray, List.set_cons_zero, List.set_cons_succ]
          go_wp2_with fail
          (with_reducible apply upon_float_bin); exact rfl; exact ha; exact (fv_int 42); intro b nb hb; (try rw [World.drewN_drewN]); simp only [Act.put, List.setIfInBounds_toArray, List.set_cons_zero, List.set_cons_succ]
          go_wp2_with fail
          (with_reducible apply upon_float_bin); exact rfl; exact (fvc rfl : Fv .f64 4607182418800017408 (some 4607182418800017408)); exact hb; intro c nc hc; (try rw [World.drewN_drewN]); simp only [Act.put, List.setIfInBounds_toArray, List.set_cons_zero, List.set_cons_succ]
          go_wp2_with fail
          go_roundw
          case rel => exact ⟨2, _, by omega, by go_num, rfl, hc, _, rfl⟩
          case measure => simp [intOf]
        · go_wp2_with fail
          (with_reducible apply upon_float_bin); exact rfl; exact hu; exact hp; intro a na ha; (try rw [World.drewN_drewN]); simp only [Act.put, List.setIfInBounds_toArray, List.set_cons_zero, List.set_cons_succ]
          go_wp2_with fail
          (with_reducible apply upon_float_bin); exact rfl; exact ha; exact (fv_int 72); intro b nb hb; (try rw [World.drewN_drewN]); simp only [Act.put, List.setIfInBounds_toArray, List.set_cons_zero, List.set_cons_succ]
          go_wp2_with fail
          (with_reducible apply upon_float_bin); exact rfl; exact (fvc rfl : Fv .f64 4607182418800017408 (some 4607182418800017408)); exact hb; intro c nc hc; (try rw [World.drewN_drewN]); simp only [Act.put, List.setIfInBounds_toArray, List.set_cons_zero, List.set_cons_succ]
          go_wp2_with fail
          go_roundw
          case rel => exact ⟨3, _, by omega, by go_num, rfl, hc, _, rfl⟩
          case measure => simp [intOf]
        · go_wp2_with fail
          (with_reducible apply upon_float_bin); exact rfl; exact hu; exact hp; intro a na ha; (try rw [World.drewN_drewN]); simp only [Act.put, List.setIfInBounds_toArray, List.set_cons_zero, List.set_cons_succ]
          go_wp2_with fail
          (with_reducible apply upon_float_bin); exact rfl; exact ha; exact (fv_int 110); intro b nb hb; (try rw [World.drewN_drewN]); simp only [Act.put, List.setIfInBounds_toArray, List.set_cons_zero, List.set_cons_succ]
          go_wp2_with fail
          (with_reducible apply upon_float_bin); exact rfl; exact (fvc rfl : Fv .f64 4607182418800017408 (some 4607182418800017408)); exact hb; intro c nc hc; (try rw [World.drewN_drewN]); simp only [Act.put, List.setIfInBounds_toArray, List.set_cons_zero, List.set_cons_succ]
          go_wp2_with fail
          go_roundw
          case rel => exact ⟨4, _, by omega, by go_num, rfl, hc, _, rfl⟩
          case measure => simp [intOf]
        · go_wp2_with fail
          (with_reducible apply upon_float_bin); exact rfl; exact hu; exact hp; intro a na ha; (try rw [World.drewN_drewN]); simp only [Act.put, List.setIfInBounds_toArray, List.set_cons_zero, List.set_cons_succ]
          go_wp2_with fail
          (with_reducible apply upon_float_bin); exact rfl; exact ha; exact (fv_int 156); intro b nb hb; (try rw [World.drewN_drewN]); simp only [Act.put, List.setIfInBounds_toArray, List.set_cons_zero, List.set_cons_succ]
          go_wp2_with fail
          (with_reducible apply upon_float_bin); exact rfl; exact (fvc rfl : Fv .f64 4607182418800017408 (some 4607182418800017408)); exact hb; intro c nc hc; (try rw [World.drewN_drewN]); simp only [Act.put, List.setIfInBounds_toArray, List.set_cons_zero, List.set_cons_succ]
          go_wp2_with fail
          go_roundw
          case rel => exact ⟨5, _, by omega, by go_num, rfl, hc, _, rfl⟩
          case measure => simp [intOf]
        · go_wp2_with fail
          (with_reducible apply upon_float_bin); exact rfl; exact hu; exact hp; intro a na ha; (try rw [World.drewN_drewN]); simp only [Act.put, List.setIfInBounds_toArray, List.set_cons_zero, List.set_cons_succ]
          go_wp2_with fail
          (with_reducible apply upon_float_bin); exact rfl; exact ha; exact (fv_int 210); intro b nb hb; (try rw [World.drewN_drewN]); simp only [Act.put, List.setIfInBounds_toArray, List.set_cons_zero, List.set_cons_succ]
          go_wp2_with fail
          (with_reducible apply upon_float_bin); exact rfl; exact (fvc rfl : Fv .f64 4607182418800017408 (some 4607182418800017408)); exact hb; intro c nc hc; (try rw [World.drewN_drewN]); simp only [Act.put, List.setIfInBounds_toArray, List.set_cons_zero, List.set_cons_succ]
          go_wp2_with fail
          go_roundw
          case rel => exact ⟨6, _, by omega, by go_num, rfl, hc, _, rfl⟩
          case measure => simp [intOf]
        · go_wp2_with fail
          (with_reducible apply upon_float_bin); exact rfl; exact hu; exact hp; intro a na ha; (try rw [World.drewN_drewN]); simp only [Act.put, List.setIfInBounds_toArray, List.set_cons_zero, List.set_cons_succ]
          go_wp2_with fail
          (with_reducible apply upon_float_bin); exact rfl; exact ha; exact (fv_int 272); intro b nb hb; (try rw [World.drewN_drewN]); simp only [Act.put, List.setIfInBounds_toArray, List.set_cons_zero, List.set_cons_succ]
          go_wp2_with fail
          (with_reducible apply upon_float_bin); exact rfl; exact (fvc rfl : Fv .f64 4607182418800017408 (some 4607182418800017408)); exact hb; intro c nc hc; (try rw [World.drewN_drewN]); simp only [Act.put, List.setIfInBounds_toArray, List.set_cons_zero, List.set_cons_succ]
          go_wp2_with fail
          go_roundw
          case rel => exact ⟨7, _, by omega, by go_num, rfl, hc, _, rfl⟩
          case measure => simp [intOf]
    | true =>
      rw [q2] at og
      go_wp2_with fail
      (with_reducible apply upon_float_bin); exact rfl; exact (fvc rfl : Fv .f64 4602678819172646912 (some 4602678819172646912)); exact hr1; intro r2 nr2 hr2; (try rw [World.drewN_drewN]); simp only [Act.put, List.setIfInBounds_toArray, List.set_cons_zero, List.set_cons_succ]
      go_wp2_with fail
      (with_reducible apply upon_float_bin); exact rfl; exact hr2; exact (fvc rfl : Fv .f64 4618760256179416344 (some 4618760256179416344)); intro z nz hz; (try rw [World.drewN_drewN]); simp only [Act.put, List.setIfInBounds_toArray, List.set_cons_zero, List.set_cons_succ]
      obtain ⟨Z, hZ⟩ : ∃ Z, Z = M6 (B6 half6 (B6 F half6)) whole6 := ⟨_, rfl⟩
      replace hz : Fv .f64 z Z := by rw [hZ]; exact hz
      have HC := Lib.hid (show sineC F = fneg .f64 (M6 Z (itS (M6 Z Z) 8)) by rw [hZ]; simp only [sineC, sinF, sinG, sinP, q1, q2])
      clear hZ
      go_wp2_with fail
      (with_reducible apply upon_float_bin); exact rfl; exact hz; exact hz; intro u nu hu; (try rw [World.drewN_drewN]); simp only [Act.put, List.setIfInBounds_toArray, List.set_cons_zero, List.set_cons_succ]
      go_wp2_with fail
      go_loopw [7, 8] (fun pp i wr => ∃ j r : Nat, j ≤ 8 ∧ i = .int .i64 j ∧ pp = .float .f64 r ∧ Fv .f64 r (itS (M6 Z Z) (8 - j)) ∧ ∃ n, wr = w.drewN n) (fun _ i _ => (intOf i).toNat)
      case atStart => exact ⟨8, _, by omega, rfl, rfl, (fvc rfl : Fv .f64 4607182418800017408 (some 4607182418800017408)), _, rfl⟩
      case round =>
        obtain ⟨j, rp, hj, rfl, rfl, hp, n, rfl⟩ := hrel
        have hcase : j = 0 ∨ j = 1 ∨ j = 2 ∨ j = 3 ∨ j = 4 ∨ j = 5 ∨ j = 6 ∨ j = 7 ∨ j = 8 := by omega
        clear hj
        rcases hcase with rfl | rfl | rfl | rfl | rfl | rfl | rfl | rfl | rfl
        · go_wp2_with fail
          (with_reducible apply upon_float_bin); exact rfl; exact hz; exact hp; intro v nv hv; (try rw [World.drewN_drewN]); simp only [Act.put, List.setIfInBounds_toArray, List.set_cons_zero, List.set_cons_succ]
          go_wp2_with fail
          go_ret
          refine ⟨⟨_, rfl, ?_⟩, _, rfl⟩
          rw [HC.out]
          exact Fv.neg hv
        · go_wp2_with fail
          (with_reducible apply upon_float_bin); exact rfl; exact hu; exact hp; intro a na ha; (try rw [World.drewN_drewN]); simp only [Act.put, List.setIfInBounds_toArray, List.set_cons_zero, List.set_cons_succ]
          go_wp2_with fail
          (with_reducible apply upon_float_bin); exact rfl; exact ha; exact (fv_int 6); intro b nb hb; (try rw [World.drewN_drewN]); simp only [Act.put, List.setIfInBounds_toArray, List.set_cons_zero, List.set_cons_succ]
          go_wp2_with fail
          (with_reducible apply upon_float_bin); exact rfl; exact (fvc rfl : Fv .f64 4607182418800017408 (some 4607182418800017408)); exact hb; intro c nc hc; (try rw [World.drewN_drewN]); simp only [Act.put, List.setIfInBounds_toArray, List.set_cons_zero, List.set_cons_succ]
          go_wp2_with fail
          go_roundw
          case rel => exact ⟨0, _, by omega, by go_num, rfl, hc, _, rfl⟩
          case measure => simp [intOf]
        · go_wp2_with fail
          (with_reducible apply upon_float_bin); exact rfl; exact hu; exact hp; intro a na ha; (try rw [World.drewN_drewN]); simp only [Act.put, List.setIfInBounds_toArray, List.set_cons_zero, List.set_cons_succ]
          go_wp2_with fail
          (with_reducible apply upon_float_bin); exact rfl; exact ha; exact (fv_int 20); intro b nb hb; (try rw [World.drewN_drewN]); simp only [Act.put, List.setIfInBounds_toArray, List.set_cons_zero, List.set_cons_succ]
          go_wp2_with fail
          (with_reducible apply upon_float_bin); exact rfl; exact (fvc rfl : Fv .f64 4607182418800017408 (some 4607182418800017408)); exact hb; intro c nc hc; (try rw [World.drewN_drewN]); simp only [Act.put, List.setIfInBounds_toArray, List.set_cons_zero, List.set_cons_succ]
          go_wp2_with fail
          go_roundw
          case rel => exact ⟨1, _, by omega, by go_num, rfl, hc, _, rfl⟩
          case measure => simp [intOf]
        · go_wp2_with fail
          (with_reducible apply upon_float_bin); exact rfl; exact hu; exact hp; intro a na ha; (try rw [World.drewN_drewN]); simp only [Act.put, List.setIfInBounds_toArray, List.set_cons_zero, List.set_cons_succ]
          go_wp2_with fail
          (with_reducible apply upon_float_bin); exact rfl; exact ha; exact (fv_int 42); intro b nb hb; (try rw [World.drewN_drewN]); simp only [Act.put, List.setIfInBounds_toArray, List.set_cons_zero, List.set_cons_succ]
          go_wp2_with fail
          (with_reducible apply upon_float_bin); exact rfl; exact (fvc rfl : Fv .f64 4607182418800017408 (some 4607182418800017408)); exact hb; intro c nc hc; (try rw [World.drewN_drewN]); simp only [Act.put, List.setIfInBounds_toArray, List.set_cons_zero, List.set_cons_succ]
          go_wp2_with fail
          go_roundw
          case rel => exact ⟨2, _, by omega, by go_num, rfl, hc, _, rfl⟩
          case measure => simp [intOf]
        · go_wp2_with fail
          (with_reducible apply upon_float_bin); exact rfl; exact hu; exact hp; intro a na ha; (try rw [World.drewN_drewN]); simp only [Act.put, List.setIfInBounds_toArray, List.set_cons_zero, List.set_cons_succ]
          go_wp2_with fail
          (with_reducible apply upon_float_bin); exact rfl; exact ha; exact (fv_int 72); intro b nb hb; (try rw [World.drewN_drewN]); simp only [Act.put, List.setIfInBounds_toArray, List.set_cons_zero, List.set_cons_succ]
          go_wp2_with fail
          (with_reducible apply upon_float_bin); exact rfl; exact (fvc rfl : Fv .f64 4607182418800017408 (some 4607182418800017408)); exact hb; intro c nc hc; (try rw [World.drewN_drewN]); simp only [Act.put, List.setIfInBounds_toArray, List.set_cons_zero, List.set_cons_succ]
          go_wp2_with fail
          go_roundw
          case rel => exact ⟨3, _, by omega, by go_num, rfl, hc, _, rfl⟩
          case measure => simp [intOf]
        · go_wp2_with fail
          (with_reducible apply upon_float_bin); exact rfl; exact hu; exact hp; intro a na ha; (try rw [World.drewN_drewN]); simp only [Act.put, List.setIfInBounds_toArray, List.set_cons_zero, List.set_cons_succ]
          go_wp2_with fail
          (with_reducible apply upon_float_bin); exact rfl; exact ha; exact (fv_int 110); intro b nb hb; (try rw [World.drewN_drewN]); simp only [Act.put, List.setIfInBounds_toArray, List.set_cons_zero, List.set_cons_succ]
          go_wp2_with fail
          (with_reducible apply upon_float_bin); exact rfl; exact (fvc rfl : Fv .f64 4607182418800017408 (some 4607182418800017408)); exact hb; intro c nc hc; (try rw [World.drewN_drewN]); simp only [Act.put, List.setIfInBounds_toArray, List.set_cons_zero, List.set_cons_succ]
          go_wp2_with fail
          go_roundw
          case rel => exact ⟨4, _, by omega, by go_num, rfl, hc, _, rfl⟩
          case measure => simp [intOf]
        · go_wp2_with fail
          (with_reducible apply upon_float_bin); exact rfl; exact hu; exact hp; intro a na ha; (try rw [World.drewN_drewN]); simp only [Act.put, List.setIfInBounds_toArray, List.set_cons_zero, List.set_cons_succ]
          go_wp2_with fail
          (with_reducible apply upon_float_bin); exact rfl; exact ha; exact (fv_int 156); intro b nb hb; (try rw [World.drewN_drewN]); simp only [Act.put, List.setIfInBounds_toArray, List.set_cons_zero, List.set_cons_succ]
          go_wp2_with fail
          (with_reducible apply upon_float_bin); exact rfl; exact (fvc rfl : Fv .f64 4607182418800017408 (some 4607182418800017408)); exact hb; intro c nc hc; (try rw [World.drewN_drewN]); simp only [Act.put, List.setIfInBounds_toArray, List.set_cons_zero, List.set_cons_succ]
          go_wp2_with fail
          go_roundw
          case rel => exact ⟨5, _, by omega, by go_num, rfl, hc, _, rfl⟩
          case measure => simp [intOf]
        · go_wp2_with fail
          (with_reducible apply upon_float_bin); exact rfl; exact hu; exact hp; intro a na ha; (try rw [World.drewN_drewN]); simp only [Act.put, List.setIfInBounds_toArray, List.set_cons_zero, List.set_cons_succ]
          go_wp2_with fail
          (with_reducible apply upon_float_bin); exact rfl; exact ha; exact (fv_int 210); intro b nb hb; (try rw [World.drewN_drewN]); simp only [Act.put, List.setIfInBounds_toArray, List.set_cons_zero, List.set_cons_succ]
          go_wp2_with fail
          (with_reducible apply upon_float_bin); exact rfl; exact (fvc rfl : Fv .f64 4607182418800017408 (some 4607182418800017408)); exact hb; intro c nc hc; (try rw [World.drewN_drewN]); simp only [Act.put, List.setIfInBounds_toArray, List.set_cons_zero, List.set_cons_succ]
          go_wp2_with fail
          go_roundw
          case rel => exact ⟨6, _, by omega, by go_num, rfl, hc, _, rfl⟩
          case measure => simp [intOf]
        · go_wp2_with fail
          (with_reducible apply upon_float_bin); exact rfl; exact hu; exact hp; intro a na ha; (try rw [World.drewN_drewN]); simp only [Act.put, List.setIfInBounds_toArray, List.set_cons_zero, List.set_cons_succ]
          go_wp2_with fail
          (with_reducible apply upon_float_bin); exact rfl; exact ha; exact (fv_int 272); intro b nb hb; (try rw [World.drewN_drewN]); simp only [Act.put, List.setIfInBounds_toArray, List.set_cons_zero, List.set_cons_succ]
          go_wp2_with fail
          (with_reducible apply upon_float_bin); exact rfl; exact (fvc rfl : Fv .f64 4607182418800017408 (some 4607182418800017408)); exact hb; intro c nc hc; (try rw [World.drewN_drewN]); simp only [Act.put, List.setIfInBounds_toArray, List.set_cons_zero, List.set_cons_succ]
          go_wp2_with fail
          go_roundw
          case rel => exact ⟨7, _, by omega, by go_num, rfl, hc, _, rfl⟩
          case measure => simp [intOf]

/-! ### the bounds of a whole number of turns -/
theorem big_ge {x : Nat} (h : Fv .f64 x (some x)) : (FloatKind.f64.format.order (rung Ieee.double x) 4841369599423283200 == some .gt || FloatKind.f64.format.order (rung Ieee.double x) 4841369599423283200 == some .eq) = bigB (some x) := by
  have ha : Fv .f64 (rung Ieee.double x) (some (rung Ieee.double x)) := h.abs
  rw [order_fv ha (fvc rfl : Fv .f64 4841369599423283200 (some 4841369599423283200)), ford_some, cmp_gt', cmp_eq']
  have e1 : srung FloatKind.f64.format 4841369599423283200 = 4841369599423283200 := by decide
  have e2 : srung FloatKind.f64.format (rung Ieee.double x) = (rung Ieee.double x : Int) := by
    show pm (sgn Ieee.double (rung Ieee.double x)) (rung Ieee.double (rung Ieee.double x)) = _
    rw [sgn_rung, rung_rung]; rfl
  rw [e1, e2]
  unfold bigB
  rw [Bool.eq_iff_iff]
  simp only [Bool.or_eq_true, decide_eq_true_eq]
  omega

theorem big_two {x : Nat} (h : Fv .f64 x (some x)) :
    ((FloatKind.f64.format.order x 4841369599423283200 == some .gt || FloatKind.f64.format.order x 4841369599423283200 == some .eq) ||
     (FloatKind.f64.format.order x 14064741636278059008 == some .lt || FloatKind.f64.format.order x 14064741636278059008 == some .eq)) = bigB (some x) := by
  rw [order_fv h (fvc rfl : Fv .f64 4841369599423283200 (some 4841369599423283200)), order_fv h (fvc rfl : Fv .f64 14064741636278059008 (some 14064741636278059008)), ford_some, ford_some, cmp_gt', cmp_eq', cmp_lt', cmp_eq']
  have e1 : srung FloatKind.f64.format 4841369599423283200 = 4841369599423283200 := by decide
  have e2 : srung FloatKind.f64.format 14064741636278059008 = -4841369599423283200 := by decide
  have e3 : srung FloatKind.f64.format x = pm (sgn Ieee.double x) (rung Ieee.double x) := rfl
  rw [e1, e2, e3]
  unfold bigB pm
  rw [Bool.eq_iff_iff]
  simp only [Bool.or_eq_true, decide_eq_true_eq]
  cases sgn Ieee.double x <;> simp <;> omega

theorem fin_some {x : Nat} {c : Option Nat} (h : Fv .f64 x c) (hf : finK .f64 c = true) : c = some x ∧ rung Ieee.double x < Ieee.double.infRung := by
  cases c with
  | none => exact absurd hf (by decide)
  | some b =>
    obtain ⟨h1, h2⟩ := cls_some.1 h.is
    subst h2
    rw [finK_some h1] at hf
    exact ⟨rfl, of_decide_eq_true hf⟩

theorem abs_word {x : Nat} {c : Option Nat} (h : Fv .f64 x c) (w : World) :
    Calls Try.prog 37 #[.float .f64 x] w fun e w' => e = .returned (.float .f64 (rung Ieee.double x)) ∧ ∃ n, w' = w.drewN n := by
  have hx := f64bits
  have hy := f64from
  go_enter Try.func37, Try.ntmps37
  go_wp2
  go_ret
  refine ⟨?_, 0, rfl⟩
  rw [andNot_top64 x h.lt]
  rfl

theorem c_impl_wideSine {x : Nat} {c : Option Nat} (h : Fv .f64 x c) (w : World) : Calls Try.prog 22 #[.float .f64 x] w (Ret6 (wideSineC c) w) := by
  cases q1 : finK .f64 c with
  | false =>
    have e : wideSineC c = none := by unfold wideSineC; rw [q1]
    rw [e]; clear e
    go_enter Try.func22, Try.ntmps22
    go_wp2_with fail
    (with_reducible apply upon_float_bin); exact rfl; exact h; exact h; intro r nr hr; (try rw [World.drewN_drewN]); simp only [Act.put, List.setIfInBounds_toArray, List.set_cons_zero, List.set_cons_succ]
    have o1 : (FloatKind.f64.format.order r 0 == some .eq) = false := by rw [order_fv hr (fvc rfl : Fv .f64 0 (some 0))]; exact q1
    have o1' : (FloatKind.f64.format.order r 0 != some .eq) = true := by rw [bne, o1]; rfl
    go_wp2_with fail
    refine (c_math_NaN _).mono ?_; rintro e w' ⟨⟨r2, rfl, hr2⟩, m, rfl⟩
    go_wp2_with fail
    go_ret
    exact ⟨⟨_, rfl, hr2⟩, _, rfl⟩
  | true =>
    obtain ⟨rfl, hf⟩ := fin_some h q1
    have hbig := big_ge h
    cases q2 : bigB (some x) with
    | true =>
      have e : wideSineC (some x) = some 0 := by unfold wideSineC; rw [q1, q2]
      rw [e]; clear e
      rw [q2] at hbig
      go_enter Try.func22, Try.ntmps22
      go_wp2_with fail
      (with_reducible apply upon_float_bin); exact rfl; exact h; exact h; intro r nr hr; (try rw [World.drewN_drewN]); simp only [Act.put, List.setIfInBounds_toArray, List.set_cons_zero, List.set_cons_succ]
      have o1 : (FloatKind.f64.format.order r 0 == some .eq) = true := by rw [order_fv hr (fvc rfl : Fv .f64 0 (some 0))]; exact q1
      have o1' : (FloatKind.f64.format.order r 0 != some .eq) = false := by rw [bne, o1]; rfl
      go_wp2_with fail
      refine (abs_word h _).mono ?_; rintro e w' ⟨rfl, m, rfl⟩
      go_wp2_with fail
      go_ret
      exact ⟨⟨_, rfl, (fvc rfl : Fv .f64 0 (some 0))⟩, _, rfl⟩
    | false =>
      have e : wideSineC (some x) = sineC (placesC (some x)) := by unfold wideSineC; rw [q1, q2]
      rw [e]; clear e
      rw [q2] at hbig
      have hb' : rung Ieee.double x < 1075 * 2 ^ 52 := by unfold bigB at q2; simp only [decide_eq_false_iff_not] at q2; omega
      have HS := Lib.hid (fun w => c_impl_sine h hb' w)
      clear hb' hf
      go_enter Try.func22, Try.ntmps22
      go_wp2_with fail
      (with_reducible apply upon_float_bin); exact rfl; exact h; exact h; intro r nr hr; (try rw [World.drewN_drewN]); simp only [Act.put, List.setIfInBounds_toArray, List.set_cons_zero, List.set_cons_succ]
      have o1 : (FloatKind.f64.format.order r 0 == some .eq) = true := by rw [order_fv hr (fvc rfl : Fv .f64 0 (some 0))]; exact q1
      have o1' : (FloatKind.f64.format.order r 0 != some .eq) = false := by rw [bne, o1]; rfl
      go_wp2_with fail
      refine (abs_word h _).mono ?_; rintro e w' ⟨rfl, m, rfl⟩
      go_wp2_with fail
      refine (HS.out _).mono ?_; rintro e w' ⟨⟨r2, rfl, hr2⟩, m2, rfl⟩
      go_wp2_with fail
      go_ret
      exact ⟨⟨_, rfl, hr2⟩, _, rfl⟩

set_option maxHeartbeats 16000000 in
theorem c_spec_sine {x : Nat} (h : Fv .f64 x (some x)) (q1 : finK .f64 (some x) = true) (q2 : bigB (some x) = false) (w : World) :
    Calls Try.prog 35 #[.float .f64 x] w (Ret6 (sineC (placesC (some x))) w) := by
  have hneg := neg_run6
  obtain ⟨_, hf⟩ := fin_some h q1
  have hbig := big_two h
  rw [q2, Bool.or_eq_false_iff] at hbig
  obtain ⟨hg1, hg2⟩ := hbig
  have hb' : rung Ieee.double x < 1075 * 2 ^ 52 := by unfold bigB at q2; simp only [decide_eq_false_iff_not] at q2; omega
  have hconv := fun w => run_convert_float_int (P := Try.prog) w 25 2 .f64 .i64 x _ f64some Try.underlying2 (toInt_val hb')
  have hfi := frac_int h.lt hf
  generalize Ieee.signed (sgn Ieee.double x) (wholeN x) 0 = nn at *
  generalize hFr : fracC (some x) = Fr at *
  have hP : placesC (some x) = match lt6 Fr with | true => A6 Fr one6 | false => Fr := by unfold placesC; rw [hFr]
  have HP := Lib.hid (And.intro hP hfi)
  clear hP hfi hFr hb' hf q2
  go_enter Try.func35, Try.ntmps35
  go_wp2_with fail
  (with_reducible apply upon_float_bin); exact rfl; exact h; exact h; intro ra nra hra; (try rw [World.drewN_drewN]); simp only [Act.put, List.setIfInBounds_toArray, List.set_cons_zero, List.set_cons_succ]
  have o1 : (FloatKind.f64.format.order ra 0 == some .eq) = true := by rw [order_fv hra (fvc rfl : Fv .f64 0 (some 0))]; exact q1
  have o1' : (FloatKind.f64.format.order ra 0 != some .eq) = false := by rw [bne, o1]; rfl
  go_wp2_with fail
  (with_reducible apply upon_float_bin); exact rfl; exact h; exact fv_int nn; intro rf nf hrf; (try rw [World.drewN_drewN]); simp only [Act.put, List.setIfInBounds_toArray, List.set_cons_zero, List.set_cons_succ]
  clear hconv
  replace hrf : Fv .f64 rf Fr := HP.out.2 ▸ hrf
  have ol : (FloatKind.f64.format.order rf 0 == some .lt) = lt6 Fr := by rw [order_fv hrf (fvc rfl : Fv .f64 0 (some 0))]; rfl
  cases q : lt6 Fr with
  | false =>
    have HE := Lib.hid (show placesC (some x) = Fr by rw [HP.out.1, q])
    clear HP
    rw [q] at ol; clear q
    generalize Fr = F at *
    have hr0 := hrf
    generalize rf = r0 at *
    have ogt : (FloatKind.f64.format.order r0 4602678819172646912 == some .gt || FloatKind.f64.format.order r0 4602678819172646912 == some .eq) = geH F := by rw [order_fv hr0 (fvc rfl : Fv .f64 4602678819172646912 (some 4602678819172646912))]; rfl
    cases q1 : geH F with
    | false =>
      rw [q1] at ogt
      have og : (FloatKind.f64.format.order r0 4598175219545276416 == some .gt) = gt6 (F) quarter6 := by rw [order_fv hr0 (fvc rfl : Fv .f64 4598175219545276416 (some 4598175219545276416))]; rfl
      cases q2 : gt6 (F) quarter6 with
      | false =>
        rw [q2] at og
        go_wp2_with fail
        (with_reducible apply upon_float_bin); exact rfl; exact hr0; exact (fvc rfl : Fv .f64 4618760256179416344 (some 4618760256179416344)); intro z nz hz; (try rw [World.drewN_drewN]); simp only [Act.put, List.setIfInBounds_toArray, List.set_cons_zero, List.set_cons_succ]
        obtain ⟨Z, hZ⟩ : ∃ Z, Z = M6 (F) whole6 := ⟨_, rfl⟩
        replace hz : Fv .f64 z Z := by rw [hZ]; exact hz
        have HC := Lib.hid (show sineC F = M6 Z (itS (M6 Z Z) 8) by rw [hZ]; simp only [sineC, sinF, sinG, sinP, q1, q2])
        clear hZ
        go_wp2_with fail
        (with_reducible apply upon_float_bin); exact rfl; exact hz; exact hz; intro u nu hu; (try rw [World.drewN_drewN]); simp only [Act.put, List.setIfInBounds_toArray, List.set_cons_zero, List.set_cons_succ]
        go_wp2_with fail
        go_loopw [7, 8] (fun pp i wr => ∃ j r : Nat, j ≤ 8 ∧ i = .int .i64 j ∧ pp = .float .f64 r ∧ Fv .f64 r (itS (M6 Z Z) (8 - j)) ∧ ∃ n, wr = w.drewN n) (fun _ i _ => (intOf i).toNat)
        case atStart => exact ⟨8, _, by omega, rfl, rfl, (fvc rfl : Fv .f64 4607182418800017408 (some 4607182418800017408)), _, rfl⟩
        case round =>
          obtain ⟨j, rp, hj, rfl, rfl, hp, n, rfl⟩ := hrel
          have hcase : j = 0 ∨ j = 1 ∨ j = 2 ∨ j = 3 ∨ j = 4 ∨ j = 5 ∨ j = 6 ∨ j = 7 ∨ j = 8 := by omega
          clear hj
          rcases hcase with rfl | rfl | rfl | rfl | rfl | rfl | rfl | rfl | rfl
          · go_wp2_with fail
            (with_reducible apply upon_float_bin); exact rfl; exact hz; exact hp; intro v nv hv; (try rw [World.drewN_drewN]); simp only [Act.put, List.setIfInBounds_toArray, List.set_cons_zero, List.set_cons_succ]
            go_wp2_with fail
            go_ret
            refine ⟨⟨_, rfl, ?_⟩, _, rfl⟩
            rw [HE.out]; rw [HC.out]
            exact hv
          · go_wp2_with fail
            (with_reducible apply upon_float_bin); exact rfl; exact hu; exact hp; intro a na ha; (try rw [World.drewN_drewN]); simp only [Act.put, List.setIfInBounds_toArray, List.set_cons_zero, List.set_cons_succ]
            go_wp2_with fail
            (with_reducible apply upon_float_bin); exact rfl; exact ha; exact (fv_int 6); intro b nb hb; (try rw [World.drewN_drewN]); simp only [Act.put, List.setIfInBounds_toArray, List.set_cons_zero, List.set_cons_succ]
            go_wp2_with fail
            (with_reducible apply upon_float_bin); exact rfl; exact (fvc rfl : Fv .f64 4607182418800017408 (some 4607182418800017408)); exact hb; intro c nc hc; (try rw [World.drewN_drewN]); simp only [Act.put, List.setIfInBounds_toArray, List.set_cons_zero, List.set_cons_succ]
            go_wp2_with fail
            go_roundw
            case rel => exact ⟨0, _, by omega, by go_num, rfl, hc, _, rfl⟩
            case measure => simp [intOf]
          · go_wp2_with fail
            (with_reducible apply upon_float_bin); exact rfl; exact hu; exact hp; intro a na ha; (try rw [World.drewN_drewN]); simp only [Act.put, List.setIfInBounds_toArray, List.set_cons_zero, List.set_cons_succ]
            go_wp2_with fail
            (with_reducible apply upon_float_bin); exact rfl; exact ha; exact (fv_int 20); intro b nb hb; (try rw [World.drewN_drewN]); simp only [Act.put, List.setIfInBounds_toArray, List.set_cons_zero, List.set_cons_succ]
            go_wp2_with fail
            (with_reducible apply upon_float_bin); exact rfl; exact (fvc rfl : Fv .f64 4607182418800017408 (some 4607182418800017408)); exact hb; intro c nc hc; (try rw [World.drewN_drewN]); simp only [Act.put, List.setIfInBounds_toArray, List.set_cons_zero, List.set_cons_succ]
            go_wp2_with fail
            go_roundw
            case rel => exact ⟨1, _, by omega, by go_num, rfl, hc, _, rfl⟩
            case measure => simp [intOf]
          · go_wp2_with fail
            (with_reducible apply upon_float_bin); exact rfl; exact hu; exact hp; intro a na ha; (try rw [World.drewN_drewN]); simp only [Act.put, List.setIfInBounds_toArray, List.set_cons_zero, List.set_cons_succ]
            go_wp2_with fail
            (with_reducible apply upon_float_bin); exact rfl; exact ha; exact (fv_int 42); intro b nb hb; (try rw [World.drewN_drewN]); simp only [Act.put, List.setIfInBounds_toArray, List.set_cons_zero, List.set_cons_succ]
            go_wp2_with fail
            (with_reducible apply upon_float_bin); exact rfl; exact (fvc rfl : Fv .f64 4607182418800017408 (some 4607182418800017408)); exact hb; intro c nc hc; (try rw [World.drewN_drewN]); simp only [Act.put, List.setIfInBounds_toArray, List.set_cons_zero, List.set_cons_succ]
            go_wp2_with fail
            go_roundw
            case rel => exact ⟨2, _, by omega, by go_num, rfl, hc, _, rfl⟩
            case measure => simp [intOf]
          · go_wp2_with fail
            (with_reducible apply upon_float_bin); exact rfl; exact hu; exact hp; intro a na ha; (try rw [World.drewN_drewN]); simp only [Act.put, List.setIfInBounds_toArray, List.set_cons_zero, List.set_cons_succ]
            go_wp2_with fail
            (with_reducible apply upon_float_bin); exact rfl; exact ha; exact (fv_int 72); intro b nb hb; (try rw [World.drewN_drewN]); simp only [Act.put, List.setIfInBounds_toArray, List.set_cons_zero, List.set_cons_succ]
            go_wp2_with fail
            (with_reducible apply upon_float_bin); exact rfl; exact (fvc rfl : Fv .f64 4607182418800017408 (some 4607182418800017408)); exact hb; intro c nc hc; (try rw [World.drewN_drewN]); simp only [Act.put, List.setIfInBounds_toArray, List.set_cons_zero, List.set_cons_succ]
            go_wp2_with fail
            go_roundw
            case rel => exact ⟨3, _, by omega, by go_num, rfl, hc, _, rfl⟩
            case measure => simp [intOf]
          · go_wp2_with fail
            (with_reducible apply upon_float_bin); exact rfl; exact hu; exact hp; intro a na ha; (try rw [World.drewN_drewN]); simp only [Act.put, List.setIfInBounds_toArray, List.set_cons_zero, List.set_cons_succ]
            go_wp2_with fail
            (with_reducible apply upon_float_bin); exact rfl; exact ha; exact (fv_int 110); intro b nb hb; (try rw [World.drewN_drewN]); simp only [Act.put, List.setIfInBounds_toArray, List.set_cons_zero, List.set_cons_succ]
            go_wp2_with fail
            (with_reducible apply upon_float_bin); exact rfl; exact (fvc rfl : Fv .f64 4607182418800017408 (some 4607182418800017408)); exact hb; intro c nc hc; (try rw [World.drewN_drewN]); simp only [Act.put, List.setIfInBounds_toArray, List.set_cons_zero, List.set_cons_succ]
            go_wp2_with fail
            go_roundw
            case rel => exact ⟨4, _, by omega, by go_num, rfl, hc, _, rfl⟩
            case measure => simp [intOf]
          · go_wp2_with fail
            (with_reducible apply upon_float_bin); exact rfl; exact hu; exact hp; intro a na ha; (try rw [World.drewN_drewN]); simp only [Act.put, List.setIfInBounds_toArray, List.set_cons_zero, List.set_cons_succ]
            go_wp2_with fail
            (with_reducible apply upon_float_bin); exact rfl; exact ha; exact (fv_int 156); intro b nb hb; (try rw [World.drewN_drewN]); simp only [Act.put, List.setIfInBounds_toArray, List.set_cons_zero, List.set_cons_succ]
            go_wp2_with fail
            (with_reducible apply upon_float_bin); exact rfl; exact (fvc rfl : Fv .f64 4607182418800017408 (some 4607182418800017408)); exact hb; intro c nc hc; (try rw [World.drewN_drewN]); simp only [Act.put, List.setIfInBounds_toArray, List.set_cons_zero, List.set_cons_succ]
            go_wp2_with fail
            go_roundw
            case rel => exact ⟨5, _, by omega, by go_num, rfl, hc, _, rfl⟩
            case measure => simp [intOf]
          · go_wp2_with fail
            (with_reducible apply upon_float_bin); exact rfl; exact hu; exact hp; intro a na ha; (try rw [World.drewN_drewN]); simp only [Act.put, List.setIfInBounds_toArray, List.set_cons_zero, List.set_cons_succ]
            go_wp2_with fail
            (with_reducible apply upon_float_bin); exact rfl; exact ha; exact (fv_int 210); intro b nb hb; (try rw [World.drewN_drewN]); simp only [Act.put, List.setIfInBounds_toArray, List.set_cons_zero, List.set_cons_succ]
            go_wp2_with fail
            (with_reducible apply upon_float_bin); exact rfl; exact (fvc rfl : Fv .f64 4607182418800017408 (some 4607182418800017408)); exact hb; intro c nc hc; (try rw [World.drewN_drewN]); simp only [Act.put, List.setIfInBounds_toArray, List.set_cons_zero, List.set_cons_succ]
            go_wp2_with fail
            go_roundw
            case rel => exact ⟨6, _, by omega, by go_num, rfl, hc, _, rfl⟩
            case measure => simp [intOf]
          · go_wp2_with fail
            (with_reducible apply upon_float_bin); exact rfl; exact hu; exact hp; intro a na ha; (try rw [World.drewN_drewN]); simp only [Act.put, List.setIfInBounds_toArray, List.set_cons_zero, List.set_cons_succ]
            go_wp2_with fail
            (with_reducible apply upon_float_bin); exact rfl; exact ha; exact (fv_int 272); intro b nb hb; (try rw [World.drewN_drewN]); simp only [Act.put, List.setIfInBounds_toArray, List.set_cons_zero, List.set_cons_succ]
            go_wp2_with fail
            (with_reducible apply upon_float_bin); exact rfl; exact (fvc rfl : Fv .f64 4607182418800017408 (some 4607182418800017408)); exact hb; intro c nc hc; (try rw [World.drewN_drewN]); simp only [Act.put, List.setIfInBounds_toArray, List.set_cons_zero, List.set_cons_succ]
            go_wp2_with fail
            go_roundw
            case rel => exact ⟨7, _, by omega, by go_num, rfl, hc, _, rfl⟩
            case measure => simp [intOf]
      | true =>
        rw [q2] at og
        go_wp2_with fail
        (with_reducible apply upon_float_bin); exact rfl; exact (fvc rfl : Fv .f64 4602678819172646912 (some 4602678819172646912)); exact hr0; intro r2 nr2 hr2; (try rw [World.drewN_drewN]); simp only [Act.put, List.setIfInBounds_toArray, List.set_cons_zero, List.set_cons_succ]
        go_wp2_with fail
        (with_reducible apply upon_float_bin); exact rfl; exact hr2; exact (fvc rfl : Fv .f64 4618760256179416344 (some 4618760256179416344)); intro z nz hz; (try rw [World.drewN_drewN]); simp only [Act.put, List.setIfInBounds_toArray, List.set_cons_zero, List.set_cons_succ]
        obtain ⟨Z, hZ⟩ : ∃ Z, Z = M6 (B6 half6 (F)) whole6 := ⟨_, rfl⟩
        replace hz : Fv .f64 z Z := by rw [hZ]; exact hz
        have HC := Lib.hid (show sineC F = M6 Z (itS (M6 Z Z) 8) by rw [hZ]; simp only [sineC, sinF, sinG, sinP, q1, q2])
        clear hZ
        go_wp2_with fail
        (with_reducible apply upon_float_bin); exact rfl; exact hz; exact hz; intro u nu hu; (try rw [World.drewN_drewN]); simp only [Act.put, List.setIfInBounds_toArray, List.set_cons_zero, List.set_cons_succ]
        go_wp2_with fail
        go_loopw [7, 8] (fun pp i wr => ∃ j r : Nat, j ≤ 8 ∧ i = .int .i64 j ∧ pp = .float .f64 r ∧ Fv .f64 r (itS (M6 Z Z) (8 - j)) ∧ ∃ n, wr = w.drewN n) (fun _ i _ => (intOf i).toNat)
        case atStart => exact ⟨8, _, by omega, rfl, rfl, (fvc rfl : Fv .f64 4607182418800017408 (some 4607182418800017408)), _, rfl⟩
        case round =>
          obtain ⟨j, rp, hj, rfl, rfl, hp, n, rfl⟩ := hrel
          have hcase : j = 0 ∨ j = 1 ∨ j = 2 ∨ j = 3 ∨ j = 4 ∨ j = 5 ∨ j = 6 ∨ j = 7 ∨ j = 8 := by omega
          clear hj
          rcases hcase with rfl | rfl | rfl | rfl | rfl | rfl | rfl | rfl | rfl
          · go_wp2_with fail
            (with_reducible apply upon_float_bin); exact rfl; exact hz; exact hp; intro v nv hv; (try rw [World.drewN_drewN]); simp only [Act.put, List.setIfInBounds_toArray, List.set_cons_zero, List.set_cons_succ]
            go_wp2_with fail
            go_ret
            refine ⟨⟨_, rfl, ?_⟩, _, rfl⟩
            rw [HE.out]; rw [HC.out]
            exact hv
          · go_wp2_with fail
            (with_reducible apply upon_float_bin); exact rfl; exact hu; exact hp; intro a na ha; (try rw [World.drewN_drewN]); simp only [Act.put, List.setIfInBounds_toArray, List.set_cons_zero, List.set_cons_succ]
            go_wp2_with fail
            (with_reducible apply upon_float_bin); exact rfl; exact ha; exact (fv_int 6); intro b nb hb; (try rw [World.drewN_drewN]); simp only [Act.put, List.setIfInBounds_toArray, List.set_cons_zero, List.set_cons_succ]
            go_wp2_with fail
            (with_reducible apply upon_float_bin); exact rfl; exact (fvc rfl : Fv .f64 4607182418800017408 (some 4607182418800017408)); exact hb; intro c nc hc; (try rw [World.drewN_drewN]); simp only [Act.put, List.setIfInBounds_toArray, List.set_cons_zero, List.set_cons_succ]
            go_wp2_with fail
            go_roundw
            case rel => exact ⟨0, _, by omega, by go_num, rfl, hc, _, rfl⟩
            case measure => simp [intOf]
          · go_wp2_with fail
            (with_reducible apply upon_float_bin); exact rfl; exact hu; exact hp; intro a na ha; (try rw [World.drewN_drewN]); simp only [Act.put, List.setIfInBounds_toArray, List.set_cons_zero, List.set_cons_succ]
            go_wp2_with fail
            (with_reducible apply upon_float_bin); exact rfl; exact ha; exact (fv_int 20); intro b nb hb; (try rw [World.drewN_drewN]); simp only [Act.put, List.setIfInBounds_toArray, List.set_cons_zero, List.set_cons_succ]
            go_wp2_with fail
            (with_reducible apply upon_float_bin); exact rfl; exact (fvc rfl : Fv .f64 4607182418800017408 (some 4607182418800017408)); exact hb; intro c nc hc; (try rw [World.drewN_drewN]); simp only [Act.put, List.setIfInBounds_toArray, List.set_cons_zero, List.set_cons_succ]
            go_wp2_with fail
            go_roundw
            case rel => exact ⟨1, _, by omega, by go_num, rfl, hc, _, rfl⟩
            case measure => simp [intOf]
          · go_wp2_with fail
            (with_reducible apply upon_float_bin); exact rfl; exact hu; exact hp; intro a na ha; (try rw [World.drewN_drewN]); simp only [Act.put, List.setIfInBounds_toArray, List.set_cons_zero, List.set_cons_succ]
            go_wp2_with fail
            (with_reducible apply upon_float_bin); exact rfl; exact ha; exact (fv_int 42); intro b nb hb; (try rw [World.drewN_drewN]); simp only [Act.put, List.setIfInBounds_toArray, List.set_cons_zero, List.set_cons_succ]
            go_wp2_with fail
            (with_reducible apply upon_float_bin); exact rfl; exact (fvc rfl : Fv .f64 4607182418800017408 (some 4607182418800017408)); exact hb; intro c nc hc; (try rw [World.drewN_drewN]); simp only [Act.put, List.setIfInBounds_toArray, List.set_cons_zero, List.set_cons_succ]
            go_wp2_with fail
            go_roundw
            case rel => exact ⟨2, _, by omega, by go_num, rfl, hc, _, rfl⟩
            case measure => simp [intOf]
          · go_wp2_with fail
            (with_reducible apply upon_float_bin); exact rfl; exact hu; exact hp; intro a na ha; (try rw [World.drewN_drewN]); simp only [Act.put, List.setIfInBounds_toArray, List.set_cons_zero, List.set_cons_succ]
            go_wp2_with fail
            (with_reducible apply upon_float_bin); exact rfl; exact ha; exact (fv_int 72); intro b nb hb; (try rw [World.drewN_drewN]); simp only [Act.put, List.setIfInBounds_toArray, List.set_cons_zero, List.set_cons_succ]
            go_wp2_with fail
            (with_reducible apply upon_float_bin); exact rfl; exact (fvc rfl : Fv .f64 4607182418800017408 (some 4607182418800017408)); exact hb; intro c nc hc; (try rw [World.drewN_drewN]); simp only [Act.put, List.setIfInBounds_toArray, List.set_cons_zero, List.set_cons_succ]
            go_wp2_with fail
            go_roundw
            case rel => exact ⟨3, _, by omega, by go_num, rfl, hc, _, rfl⟩
            case measure => simp [intOf]
          · go_wp2_with fail
            (with_reducible apply upon_float_bin); exact rfl; exact hu; exact hp; intro a na ha; (try rw [World.drewN_drewN]); simp only [Act.put, List.setIfInBounds_toArray, List.set_cons_zero, List.set_cons_succ]
            go_wp2_with fail
            (with_reducible apply upon_float_bin); exact rfl; exact ha; exact (fv_int 110); intro b nb hb; (try rw [World.drewN_drewN]); simp only [Act.put, List.setIfInBounds_toArray, List.set_cons_zero, List.set_cons_succ]
            go_wp2_with fail
            (with_reducible apply upon_float_bin); exact rfl; exact (fvc rfl : Fv .f64 4607182418800017408 (some 4607182418800017408)); exact hb; intro c nc hc; (try rw [World.drewN_drewN]); simp only [Act.put, List.setIfInBounds_toArray, List.set_cons_zero, List.set_cons_succ]
            go_wp2_with fail
            go_roundw
            case rel => exact ⟨4, _, by omega, by go_num, rfl, hc, _, rfl⟩
            case measure => simp [intOf]
          · go_wp2_with fail
            (with_reducible apply upon_float_bin); exact rfl; exact hu; exact hp; intro a na ha; (try rw [World.drewN_drewN]); simp only [Act.put, List.setIfInBounds_toArray, List.set_cons_zero, List.set_cons_succ]
            go_wp2_with fail
            (with_reducible apply upon_float_bin); exact rfl; exact ha; exact (fv_int 156); intro b nb hb; (try rw [World.drewN_drewN]); simp only [Act.put, List.setIfInBounds_toArray, List.set_cons_zero, List.set_cons_succ]
            go_wp2_with fail
            (with_reducible apply upon_float_bin); exact rfl; exact (fvc rfl : Fv .f64 4607182418800017408 (some 4607182418800017408)); exact hb; intro c nc hc; (try rw [World.drewN_drewN]); simp only [Act.put, List.setIfInBounds_toArray, List.set_cons_zero, List.set_cons_succ]
            go_wp2_with fail
            go_roundw
            case rel => exact ⟨5, _, by omega, by go_num, rfl, hc, _, rfl⟩
            case measure => simp [intOf]
          · go_wp2_with fail
            (with_reducible apply upon_float_bin); exact rfl; exact hu; exact hp; intro a na ha; (try rw [World.drewN_drewN]); simp only [Act.put, List.setIfInBounds_toArray, List.set_cons_zero, List.set_cons_succ]
            go_wp2_with fail
            (with_reducible apply upon_float_bin); exact rfl; exact ha; exact (fv_int 210); intro b nb hb; (try rw [World.drewN_drewN]); simp only [Act.put, List.setIfInBounds_toArray, List.set_cons_zero, List.set_cons_succ]
            go_wp2_with fail
            (with_reducible apply upon_float_bin); exact rfl; exact (fvc rfl : Fv .f64 4607182418800017408 (some 4607182418800017408)); exact hb; intro c nc hc; (try rw [World.drewN_drewN]); simp only [Act.put, List.setIfInBounds_toArray, List.set_cons_zero, List.set_cons_succ]
            go_wp2_with fail
            go_roundw
            case rel => exact ⟨6, _, by omega, by go_num, rfl, hc, _, rfl⟩
            case measure => simp [intOf]
          · go_wp2_with fail
            (with_reducible apply upon_float_bin); exact rfl; exact hu; exact hp; intro a na ha; (try rw [World.drewN_drewN]); simp only [Act.put, List.setIfInBounds_toArray, List.set_cons_zero, List.set_cons_succ]
            go_wp2_with fail
            (with_reducible apply upon_float_bin); exact rfl; exact ha; exact (fv_int 272); intro b nb hb; (try rw [World.drewN_drewN]); simp only [Act.put, List.setIfInBounds_toArray, List.set_cons_zero, List.set_cons_succ]
            go_wp2_with fail
            (with_reducible apply upon_float_bin); exact rfl; exact (fvc rfl : Fv .f64 4607182418800017408 (some 4607182418800017408)); exact hb; intro c nc hc; (try rw [World.drewN_drewN]); simp only [Act.put, List.setIfInBounds_toArray, List.set_cons_zero, List.set_cons_succ]
            go_wp2_with fail
            go_roundw
            case rel => exact ⟨7, _, by omega, by go_num, rfl, hc, _, rfl⟩
            case measure => simp [intOf]
    | true =>
      rw [q1] at ogt
      go_wp2_with fail
      (with_reducible apply upon_float_bin); exact rfl; exact hr0; exact (fvc rfl : Fv .f64 4602678819172646912 (some 4602678819172646912)); intro r1 nr1 hr1; (try rw [World.drewN_drewN]); simp only [Act.put, List.setIfInBounds_toArray, List.set_cons_zero, List.set_cons_succ]
      have og : (FloatKind.f64.format.order r1 4598175219545276416 == some .gt) = gt6 (B6 F half6) quarter6 := by rw [order_fv hr1 (fvc rfl : Fv .f64 4598175219545276416 (some 4598175219545276416))]; rfl
      cases q2 : gt6 (B6 F half6) quarter6 with
      | false =>
        rw [q2] at og
        go_wp2_with fail
        (with_reducible apply upon_float_bin); exact rfl; exact hr1; exact (fvc rfl : Fv .f64 4618760256179416344 (some 4618760256179416344)); intro z nz hz; (try rw [World.drewN_drewN]); simp only [Act.put, List.setIfInBounds_toArray, List.set_cons_zero, List.set_cons_succ]
        obtain ⟨Z, hZ⟩ : ∃ Z, Z = M6 (B6 F half6) whole6 := ⟨_, rfl⟩
        replace hz : Fv .f64 z Z := by rw [hZ]; exact hz
        have HC := Lib.hid (show sineC F = fneg .f64 (M6 Z (itS (M6 Z Z) 8)) by rw [hZ]; simp only [sineC, sinF, sinG, sinP, q1, q2])
        clear hZ
        go_wp2_with fail
        (with_reducible apply upon_float_bin); exact rfl; exact hz; exact hz; intro u nu hu; (try rw [World.drewN_drewN]); simp only [Act.put, List.setIfInBounds_toArray, List.set_cons_zero, List.set_cons_succ]
        go_wp2_with fail
        go_loopw [7, 8] (fun pp i wr => ∃ j r : Nat, j ≤ 8 ∧ i = .int .i64 j ∧ pp = .float .f64 r ∧ Fv .f64 r (itS (M6 Z Z) (8 - j)) ∧ ∃ n, wr = w.drewN n) (fun _ i _ => (intOf i).toNat)
        case atStart => exact ⟨8, _, by omega, rfl, rfl, (fvc rfl : Fv .f64 4607182418800017408 (some 4607182418800017408)), _, rfl⟩
        case round =>
          obtain ⟨j, rp, hj, rfl, rfl, hp, n, rfl⟩ := hrel
          have hcase : j = 0 ∨ j = 1 ∨ j = 2 ∨ j = 3 ∨ j = 4 ∨ j = 5 ∨ j = 6 ∨ j = 7 ∨ j = 8 := by omega
          clear hj
          rcases hcase with rfl | rfl | rfl | rfl | rfl | rfl | rfl | rfl | rfl
          · go_wp2_with fail
            (with_reducible apply upon_float_bin); exact rfl; exact hz; exact hp; intro v nv hv; (try rw [World.drewN_drewN]); simp only [Act.put, List.setIfInBounds_toArray, List.set_cons_zero, List.set_cons_succ]
            go_wp2_with fail
            go_ret
            refine ⟨⟨_, rfl, ?_⟩, _, rfl⟩
            rw [HE.out]; rw [HC.out]
            exact Fv.neg hv
          · go_wp2_with fail
            (with_reducible apply upon_float_bin); exact rfl; exact hu; exact hp; intro a na ha; (try rw [World.drewN_drewN]); simp only [Act.put, List.setIfInBounds_toArray, List.set_cons_zero, List.set_cons_succ]
            go_wp2_with fail
            (with_reducible apply upon_float_bin); exact rfl; exact ha; exact (fv_int 6); intro b nb hb; (try rw [World.drewN_drewN]); simp only [Act.put, List.setIfInBounds_toArray, List.set_cons_zero, List.set_cons_succ]
            go_wp2_with fail
            (with_reducible apply upon_float_bin); exact rfl; exact (fvc rfl : Fv .f64 4607182418800017408 (some 4607182418800017408)); exact hb; intro c nc hc; (try rw [World.drewN_drewN]); simp only [Act.put, List.setIfInBounds_toArray, List.set_cons_zero, List.set_cons_succ]
            go_wp2_with fail
            go_roundw
            case rel => exact ⟨0, _, by omega, by go_num, rfl, hc, _, rfl⟩
            case measure => simp [intOf]
          · go_wp2_with fail
            (with_reducible apply upon_float_bin); exact rfl; exact hu; exact hp; intro a na ha; (try rw [World.drewN_drewN]); simp only [Act.put, List.setIfInBounds_toArray, List.set_cons_zero, List.set_cons_succ]
            go_wp2_with fail
            (with_reducible apply upon_float_bin); exact rfl; exact ha; exact (fv_int 20); intro b nb hb; (try rw [World.drewN_drewN]); simp only [Act.put, List.setIfInBounds_toArray, List.set_cons_zero, List.set_cons_succ]
            go_wp2_with fail
            (with_reducible apply upon_float_bin); exact rfl; exact (fvc rfl : Fv .f64 4607182418800017408 (some 4607182418800017408)); exact hb; intro c nc hc; (try rw [World.drewN_drewN]); simp only [Act.put, List.setIfInBounds_toArray, List.set_cons_zero, List.set_cons_succ]
            go_wp2_with fail
            go_roundw
            case rel => exact ⟨1, _, by omega, by go_num, rfl, hc, _, rfl⟩
            case measure => simp [intOf]
          · go_wp2_with fail
            (with_reducible apply upon_float_bin); exact rfl; exact hu; exact hp; intro a na ha; (try rw [World.drewN_drewN]); simp only [Act.put, List.setIfInBounds_toArray, List.set_cons_zero, List.set_cons_succ]
            go_wp2_with fail
            (with_reducible apply upon_float_bin); exact rfl; exact ha; exact (fv_int 42); intro b nb hb; (try rw [World.drewN_drewN]); simp only [Act.put, List.setIfInBounds_toArray, List.set_cons_zero, List.set_cons_succ]
            go_wp2_with fail
            (with_reducible apply upon_float_bin); exact rfl; exact (fvc rfl : Fv .f64 4607182418800017408 (some 4607182418800017408)); exact hb; intro c nc hc; (try rw [World.drewN_drewN]); simp only [Act.put, List.setIfInBounds_toArray, List.set_cons_zero, List.set_cons_succ]
            go_wp2_with fail
            go_roundw
            case rel => exact ⟨2, _, by omega, by go_num, rfl, hc, _, rfl⟩
            case measure => simp [intOf]
          · go_wp2_with fail
            (with_reducible apply upon_float_bin); exact rfl; exact hu; exact hp; intro a na ha; (try rw [World.drewN_drewN]); simp only [Act.put, List.setIfInBounds_toArray, List.set_cons_zero, List.set_cons_succ]
            go_wp2_with fail
            (with_reducible apply upon_float_bin); exact rfl; exact ha; exact (fv_int 72); intro b nb hb; (try rw [World.drewN_drewN]); simp only [Act.put, List.setIfInBounds_toArray, List.set_cons_zero, List.set_cons_succ]
            go_wp2_with fail
            (with_reducible apply upon_float_bin); exact rfl; exact (fvc rfl : Fv .f64 4607182418800017408 (some 4607182418800017408)); exact hb; intro c nc hc; (try rw [World.drewN_drewN]); simp only [Act.put, List.setIfInBounds_toArray, List.set_cons_zero, List.set_cons_succ]
            go_wp2_with fail
            go_roundw
            case rel => exact ⟨3, _, by omega, by go_num, rfl, hc, _, rfl⟩
            case measure => simp [intOf]
          · go_wp2_with fail
            (with_reducible apply upon_float_bin); exact rfl; exact hu; exact hp; intro a na ha; (try rw [World.drewN_drewN]); simp only [Act.put, List.setIfInBounds_toArray, List.set_cons_zero, List.set_cons_succ]
            go_wp2_with fail
            (with_reducible apply upon_float_bin); exact rfl; exact ha; exact (fv_int 110); intro b nb hb; (try rw [World.drewN_drewN]); simp only [Act.put, List.setIfInBounds_toArray, List.set_cons_zero, List.set_cons_succ]
            go_wp2_with fail
            (with_reducible apply upon_float_bin); exact rfl; exact (fvc rfl : Fv .f64 4607182418800017408 (some 4607182418800017408)); exact hb; intro c nc hc; (try rw [World.drewN_drewN]); simp only [Act.put, List.setIfInBounds_toArray, List.set_cons_zero, List.set_cons_succ]
            go_wp2_with fail
            go_roundw
            case rel => exact ⟨4, _, by omega, by go_num, rfl, hc, _, rfl⟩
            case measure => simp [intOf]
          · go_wp2_with fail
            (with_reducible apply upon_float_bin); exact rfl; exact hu; exact hp; intro a na ha; (try rw [World.drewN_drewN]); simp only [Act.put, List.setIfInBounds_toArray, List.set_cons_zero, List.set_cons_succ]
            go_wp2_with fail
            (with_reducible apply upon_float_bin); exact rfl; exact ha; exact (fv_int 156); intro b nb hb; (try rw [World.drewN_drewN]); simp only [Act.put, List.setIfInBounds_toArray, List.set_cons_zero, List.set_cons_succ]
            go_wp2_with fail
            (with_reducible apply upon_float_bin); exact rfl; exact (fvc rfl : Fv .f64 4607182418800017408 (some 4607182418800017408)); exact hb; intro c nc hc; (try rw [World.drewN_drewN]); simp only [Act.put, List.setIfInBounds_toArray, List.set_cons_zero, List.set_cons_succ]
            go_wp2_with fail
            go_roundw
            case rel => exact ⟨5, _, by omega, by go_num, rfl, hc, _, rfl⟩
            case measure => simp [intOf]
          · go_wp2_with fail
            (with_reducible apply upon_float_bin); exact rfl; exact hu; exact hp; intro a na ha; (try rw [World.drewN_drewN]); simp only [Act.put, List.setIfInBounds_toArray, List.set_cons_zero, List.set_cons_succ]
            go_wp2_with fail
            (with_reducible apply upon_float_bin); exact rfl; exact ha; exact (fv_int 210); intro b nb hb; (try rw [World.drewN_drewN]); simp only [Act.put, List.setIfInBounds_toArray, List.set_cons_zero, List.set_cons_succ]
            go_wp2_with fail
            (with_reducible apply upon_float_bin); exact rfl; exact (fvc rfl : Fv .f64 4607182418800017408 (some 4607182418800017408)); exact hb; intro c nc hc; (try rw [World.drewN_drewN]); simp only [Act.put, List.setIfInBounds_toArray, List.set_cons_zero, List.set_cons_succ]
            go_wp2_with fail
            go_roundw
            case rel => exact ⟨6, _, by omega, by go_num, rfl, hc, _, rfl⟩
            case measure => simp [intOf]
          · go_wp2_with fail
            (with_reducible apply upon_float_bin); exact rfl; exact hu; exact hp; intro a na ha; (try rw [World.drewN_drewN]); simp only [Act.put, List.setIfInBounds_toArray, List.set_cons_zero, List.set_cons_succ]
            go_wp2_with fail
            (with_reducible apply upon_float_bin); exact rfl; exact ha; exact (fv_int 272); intro b nb hb; (try rw [World.drewN_drewN]); simp only [Act.put, List.setIfInBounds_toArray, List.set_cons_zero, List.set_cons_succ]
            go_wp2_with fail
            (with_reducible apply upon_float_bin); exact rfl; exact (fvc rfl : Fv .f64 4607182418800017408 (some 4607182418800017408)); exact hb; intro c nc hc; (try rw [World.drewN_drewN]); simp only [Act.put, List.setIfInBounds_toArray, List.set_cons_zero, List.set_cons_succ]
            go_wp2_with fail
            go_roundw
            case rel => exact ⟨7, _, by omega, by go_num, rfl, hc, _, rfl⟩
            case measure => simp [intOf]
      | true =>
        rw [q2] at og
        go_wp2_with fail
        (with_reducible apply upon_float_bin); exact rfl; exact (fvc rfl : Fv .f64 4602678819172646912 (some 4602678819172646912)); exact hr1; intro r2 nr2 hr2; (try rw [World.drewN_drewN]); simp only [Act.put, List.setIfInBounds_toArray, List.set_cons_zero, List.set_cons_succ]
        go_wp2_with fail
        (with_reducible apply upon_float_bin); exact rfl; exact hr2; exact (fvc rfl : Fv .f64 4618760256179416344 (some 4618760256179416344)); intro z nz hz; (try rw [World.drewN_drewN]); simp only [Act.put, List.setIfInBounds_toArray, List.set_cons_zero, List.set_cons_succ]
        obtain ⟨Z, hZ⟩ : ∃ Z, Z = M6 (B6 half6 (B6 F half6)) whole6 := ⟨_, rfl⟩
        replace hz : Fv .f64 z Z := by rw [hZ]; exact hz
        have HC := Lib.hid (show sineC F = fneg .f64 (M6 Z (itS (M6 Z Z) 8)) by rw [hZ]; simp only [sineC, sinF, sinG, sinP, q1, q2])
        clear hZ
        go_wp2_with fail
        (with_reducible apply upon_float_bin); exact rfl; exact hz; exact hz; intro u nu hu; (try rw [World.drewN_drewN]); simp only [Act.put, List.setIfInBounds_toArray, List.set_cons_zero, List.set_cons_succ]
        go_wp2_with fail
        go_loopw [7, 8] (fun pp i wr => ∃ j r : Nat, j ≤ 8 ∧ i = .int .i64 j ∧ pp = .float .f64 r ∧ Fv .f64 r (itS (M6 Z Z) (8 - j)) ∧ ∃ n, wr = w.drewN n) (fun _ i _ => (intOf i).toNat)
        case atStart => exact ⟨8, _, by omega, rfl, rfl, (fvc rfl : Fv .f64 4607182418800017408 (some 4607182418800017408)), _, rfl⟩
        case round =>
          obtain ⟨j, rp, hj, rfl, rfl, hp, n, rfl⟩ := hrel
          have hcase : j = 0 ∨ j = 1 ∨ j = 2 ∨ j = 3 ∨ j = 4 ∨ j = 5 ∨ j = 6 ∨ j = 7 ∨ j = 8 := by omega
          clear hj
          rcases hcase with rfl | rfl | rfl | rfl | rfl | rfl | rfl | rfl | rfl
          · go_wp2_with fail
            (with_reducible apply upon_float_bin); exact rfl; exact hz; exact hp; intro v nv hv; (try rw [World.drewN_drewN]); simp only [Act.put, List.setIfInBounds_toArray, List.set_cons_zero, List.set_cons_succ]
            go_wp2_with fail
            go_ret
            refine ⟨⟨_, rfl, ?_⟩, _, rfl⟩
            rw [HE.out]; rw [HC.out]
            exact Fv.neg hv
          · go_wp2_with fail
            (with_reducible apply upon_float_bin); exact rfl; exact hu; exact hp; intro a na ha; (try rw [World.drewN_drewN]); simp only [Act.put, List.setIfInBounds_toArray, List.set_cons_zero, List.set_cons_succ]
            go_wp2_with fail
            (with_reducible apply upon_float_bin); exact rfl; exact ha; exact (fv_int 6); intro b nb hb; (try rw [World.drewN_drewN]); simp only [Act.put, List.setIfInBounds_toArray, List.set_cons_zero, List.set_cons_succ]
            go_wp2_with fail
            (with_reducible apply upon_float_bin); exact rfl; exact (fvc rfl : Fv .f64 4607182418800017408 (some 4607182418800017408)); exact hb; intro c nc hc; (try rw [World.drewN_drewN]); simp only [Act.put, List.setIfInBounds_toArray, List.set_cons_zero, List.set_cons_succ]
            go_wp2_with fail
            go_roundw
            case rel => exact ⟨0, _, by omega, by go_num, rfl, hc, _, rfl⟩
            case measure => simp [intOf]
          · go_wp2_with fail
            (with_reducible apply upon_float_bin); exact rfl; exact hu; exact hp; intro a na ha; (try rw [World.drewN_drewN]); simp only [Act.put, List.setIfInBounds_toArray, List.set_cons_zero, List.set_cons_succ]
            go_wp2_with fail
            (with_reducible apply upon_float_bin); exact rfl; exact ha; exact (fv_int 20); intro b nb hb; (try rw [World.drewN_drewN]); simp only [Act.put, List.setIfInBounds_toArray, List.set_cons_zero, List.set_cons_succ]
            go_wp2_with fail
            (with_reducible apply upon_float_bin); exact rfl; exact (fvc rfl : Fv .f64 4607182418800017408 (some 4607182418800017408)); exact hb; intro c nc hc; (try rw [World.drewN_drewN]); simp only [Act.put, List.setIfInBounds_toArray, List.set_cons_zero, List.set_cons_succ]
            go_wp2_with fail
            go_roundw
            case rel => exact ⟨1, _, by omega, by go_num, rfl, hc, _, rfl⟩
            case measure => simp [intOf]
          · go_wp2_with fail
            (with_reducible apply upon_float_bin); exact rfl; exact hu; exact hp; intro a na ha; (try rw [World.drewN_drewN]); simp only [Act.put, List.setIfInBounds_toArray, List.set_cons_zero, List.set_cons_succ]
            go_wp2_with fail
            (with_reducible apply upon_float_bin); exact rfl; exact ha; exact (fv_int 42); intro b nb hb; (try rw [World.drewN_drewN]); simp only [Act.put, List.setIfInBounds_toArray, List.set_cons_zero, List.set_cons_succ]
            go_wp2_with fail
            (with_reducible apply upon_float_bin); exact rfl; exact (fvc rfl : Fv .f64 4607182418800017408 (some 4607182418800017408)); exact hb; intro c nc hc; (try rw [World.drewN_drewN]); simp only [Act.put, List.setIfInBounds_toArray, List.set_cons_zero, List.set_cons_succ]
            go_wp2_with fail
            go_roundw
            case rel => exact ⟨2, _, by omega, by go_num, rfl, hc, _, rfl⟩
            case measure => simp [intOf]
          · go_wp2_with fail
            (with_reducible apply upon_float_bin); exact rfl; exact hu; exact hp; intro a na ha; (try rw [World.drewN_drewN]); simp only [Act.put, List.setIfInBounds_toArray, List.set_cons_zero, List.set_cons_succ]
            go_wp2_with fail
            (with_reducible apply upon_float_bin); exact rfl; exact ha; exact (fv_int 72); intro b nb hb; (try rw [World.drewN_drewN]); simp only [Act.put, List.setIfInBounds_toArray, List.set_cons_zero, List.set_cons_succ]
            go_wp2_with fail
            (with_reducible apply upon_float_bin); exact rfl; exact (fvc rfl : Fv .f64 4607182418800017408 (some 4607182418800017408)); exact hb; intro c nc hc; (try rw [World.drewN_drewN]); simp only [Act.put, List.setIfInBounds_toArray, List.set_cons_zero, List.set_cons_succ]
            go_wp2_with fail
            go_roundw
            case rel => exact ⟨3, _, by omega, by go_num, rfl, hc, _, rfl⟩
            case measure => simp [intOf]
          · go_wp2_with fail
            (with_reducible apply upon_float_bin); exact rfl; exact hu; exact hp; intro a na ha; (try rw [World.drewN_drewN]); simp only [Act.put, List.setIfInBounds_toArray, List.set_cons_zero, List.set_cons_succ]
            go_wp2_with fail
            (with_reducible apply upon_float_bin); exact rfl; exact ha; exact (fv_int 110); intro b nb hb; (try rw [World.drewN_drewN]); simp only [Act.put, List.setIfInBounds_toArray, List.set_cons_zero, List.set_cons_succ]
            go_wp2_with fail
            (with_reducible apply upon_float_bin); exact rfl; exact (fvc rfl : Fv .f64 4607182418800017408 (some 4607182418800017408)); exact hb; intro c nc hc; (try rw [World.drewN_drewN]); simp only [Act.put, List.setIfInBounds_toArray, List.set_cons_zero, List.set_cons_succ]
            go_wp2_with fail
            go_roundw
            case rel => exact ⟨4, _, by omega, by go_num, rfl, hc, _, rfl⟩
            case measure => simp [intOf]
          · go_wp2_with fail
            (with_reducible apply upon_float_bin); exact rfl; exact hu; exact hp; intro a na ha; (try rw [World.drewN_drewN]); simp only [Act.put, List.setIfInBounds_toArray, List.set_cons_zero, List.set_cons_succ]
            go_wp2_with fail
            (with_reducible apply upon_float_bin); exact rfl; exact ha; exact (fv_int 156); intro b nb hb; (try rw [World.drewN_drewN]); simp only [Act.put, List.setIfInBounds_toArray, List.set_cons_zero, List.set_cons_succ]
            go_wp2_with fail
            (with_reducible apply upon_float_bin); exact rfl; exact (fvc rfl : Fv .f64 4607182418800017408 (some 4607182418800017408)); exact hb; intro c nc hc; (try rw [World.drewN_drewN]); simp only [Act.put, List.setIfInBounds_toArray, List.set_cons_zero, List.set_cons_succ]
            go_wp2_with fail
            go_roundw
            case rel => exact ⟨5, _, by omega, by go_num, rfl, hc, _, rfl⟩
            case measure => simp [intOf]
          · go_wp2_with fail
            (with_reducible apply upon_float_bin); exact rfl; exact hu; exact hp; intro a na ha; (try rw [World.drewN_drewN]); simp only [Act.put, List.setIfInBounds_toArray, List.set_cons_zero, List.set_cons_succ]
            go_wp2_with fail
            (with_reducible apply upon_float_bin); exact rfl; exact ha; exact (fv_int 210); intro b nb hb; (try rw [World.drewN_drewN]); simp only [Act.put, List.setIfInBounds_toArray, List.set_cons_zero, List.set_cons_succ]
            go_wp2_with fail
            (with_reducible apply upon_float_bin); exact rfl; exact (fvc rfl : Fv .f64 4607182418800017408 (some 4607182418800017408)); exact hb; intro c nc hc; (try rw [World.drewN_drewN]); simp only [Act.put, List.setIfInBounds_toArray, List.set_cons_zero, List.set_cons_succ]
            go_wp2_with fail
            go_roundw
            case rel => exact ⟨6, _, by omega, by go_num, rfl, hc, _, rfl⟩
            case measure => simp [intOf]
          · go_wp2_with fail
            (with_reducible apply upon_float_bin); exact rfl; exact hu; exact hp; intro a na ha; (try rw [World.drewN_drewN]); simp only [Act.put, List.setIfInBounds_toArray, List.set_cons_zero, List.set_cons_succ]
            go_wp2_with fail
            (with_reducible apply upon_float_bin); exact rfl; exact ha; exact (fv_int 272); intro b nb hb; (try rw [World.drewN_drewN]); simp only [Act.put, List.setIfInBounds_toArray, List.set_cons_zero, List.set_cons_succ]
            go_wp2_with fail
            (with_reducible apply upon_float_bin); exact rfl; exact (fvc rfl : Fv .f64 4607182418800017408 (some 4607182418800017408)); exact hb; intro c nc hc; (try rw [World.drewN_drewN]); simp only [Act.put, List.setIfInBounds_toArray, List.set_cons_zero, List.set_cons_succ]
            go_wp2_with fail
            go_roundw
            case rel => exact ⟨7, _, by omega, by go_num, rfl, hc, _, rfl⟩
            case measure => simp [intOf]
  | true =>
    have HE := Lib.hid (show placesC (some x) = A6 Fr one6 by rw [HP.out.1, q])
    clear HP
    rw [q] at ol; clear q
    go_wp2_with fail
    (with_reducible apply upon_float_bin); exact rfl; exact hrf; exact (fvc rfl : Fv .f64 4607182418800017408 (some 4607182418800017408)); intro r0 nr0 hr0; (try rw [World.drewN_drewN]); simp only [Act.put, List.setIfInBounds_toArray, List.set_cons_zero, List.set_cons_succ]
    change Fv .f64 r0 (A6 Fr one6) at hr0
    generalize A6 Fr one6 = F at *
    have ogt : (FloatKind.f64.format.order r0 4602678819172646912 == some .gt || FloatKind.f64.format.order r0 4602678819172646912 == some .eq) = geH F := by rw [order_fv hr0 (fvc rfl : Fv .f64 4602678819172646912 (some 4602678819172646912))]; rfl
    cases q1 : geH F with
    | false =>
      rw [q1] at ogt
      have og : (FloatKind.f64.format.order r0 4598175219545276416 == some .gt) = gt6 (F) quarter6 := by rw [order_fv hr0 (fvc rfl : Fv .f64 4598175219545276416 (some 4598175219545276416))]; rfl
      cases q2 : gt6 (F) quarter6 with
      | false =>
        rw [q2] at og
        go_wp2_with fail
        (with_reducible apply upon_float_bin); exact rfl; exact hr0; exact (fvc rfl : Fv .f64 4618760256179416344 (some 4618760256179416344)); intro z nz hz; (try rw [World.drewN_drewN]); simp only [Act.put, List.setIfInBounds_toArray, List.set_cons_zero, List.set_cons_succ]
        obtain ⟨Z, hZ⟩ : ∃ Z, Z = M6 (F) whole6 := ⟨_, rfl⟩
        replace hz : Fv .f64 z Z := by rw [hZ]; exact hz
        have HC := Lib.hid (show sineC F = M6 Z (itS (M6 Z Z) 8) by rw [hZ]; simp only [sineC, sinF, sinG, sinP, q1, q2])
        clear hZ
        go_wp2_with fail
        (with_reducible apply upon_float_bin); exact rfl; exact hz; exact hz; intro u nu hu; (try rw [World.drewN_drewN]); simp only [Act.put, List.setIfInBounds_toArray, List.set_cons_zero, List.set_cons_succ]
        go_wp2_with fail
        go_loopw [7, 8] (fun pp i wr => ∃ j r : Nat, j ≤ 8 ∧ i = .int .i64 j ∧ pp = .float .f64 r ∧ Fv .f64 r (itS (M6 Z Z) (8 - j)) ∧ ∃ n, wr = w.drewN n) (fun _ i _ => (intOf i).toNat)
        case atStart => exact ⟨8, _, by omega, rfl, rfl, (fvc rfl : Fv .f64 4607182418800017408 (some 4607182418800017408)), _, rfl⟩
        case round =>
          obtain ⟨j, rp, hj, rfl, rfl, hp, n, rfl⟩ := hrel
          have hcase : j = 0 ∨ j = 1 ∨ j = 2 ∨ j = 3 ∨ j = 4 ∨ j = 5 ∨ j = 6 ∨ j = 7 ∨ j = 8 := by omega
          clear hj
          rcases hcase with rfl | rfl | rfl | rfl | rfl | rfl | rfl | rfl | rfl
          · go_wp2_with fail
            (with_reducible apply upon_float_bin); exact rfl; exact hz; exact hp; intro v nv hv; (try rw [World.drewN_drewN]); simp only [Act.put, List.setIfInBounds_toArray, List.set_cons_zero, List.set_cons_succ]
            go_wp2_with fail
            go_ret
            refine ⟨⟨_, rfl, ?_⟩, _, rfl⟩
            rw [HE.out]; rw [HC.out]
            exact hv
          · go_wp2_with fail
            (with_reducible apply upon_float_bin); exact rfl; exact hu; exact hp; intro a na ha; (try rw [World.drewN_drewN]); simp only [Act.put, List.setIfInBounds_toArray, List.set_cons_zero, List.set_cons_succ]
            go_wp2_with fail
            (with_reducible apply upon_float_bin); exact rfl; exact ha; exact (fv_int 6); intro b nb hb; (try rw [World.drewN_drewN]); simp only [Act.put, List.setIfInBounds_toArray, List.set_cons_zero, List.set_cons_succ]
            go_wp2_with fail
            (with_reducible apply upon_float_bin); exact rfl; exact (fvc rfl : Fv .f64 4607182418800017408 (some 4607182418800017408)); exact hb; intro c nc hc; (try rw [World.drewN_drewN]); simp only [Act.put, List.setIfInBounds_toArray, List.set_cons_zero, List.set_cons_succ]
            go_wp2_with fail
            go_roundw
            case rel => exact ⟨0, _, by omega, by go_num, rfl, hc, _, rfl⟩
            case measure => simp [intOf]
          · go_wp2_with fail
            (with_reducible apply upon_float_bin); exact rfl; exact hu; exact hp; intro a na ha; (try rw [World.drewN_drewN]); simp only [Act.put, List.setIfInBounds_toArray, List.set_cons_zero, List.set_cons_succ]
            go_wp2_with fail
            (with_reducible apply upon_float_bin); exact rfl; exact ha; exact (fv_int 20); intro b nb hb; (try rw [World.drewN_drewN]); simp only [Act.put, List.setIfInBounds_toArray, List.set_cons_zero, List.set_cons_succ]
            go_wp2_with fail
            (with_reducible apply upon_float_bin); exact rfl; exact (fvc rfl : Fv .f64 4607182418800017408 (some 4607182418800017408)); exact hb; intro c nc hc; (try rw [World.drewN_drewN]); simp only [Act.put, List.setIfInBounds_toArray, List.set_cons_zero, List.set_cons_succ]
            go_wp2_with fail
            go_roundw
            case rel => exact ⟨1, _, by omega, by go_num, rfl, hc, _, rfl⟩
            case measure => simp [intOf]
          · go_wp2_with fail
            (with_reducible apply upon_float_bin); exact rfl; exact hu; exact hp; intro a na ha; (try rw [World.drewN_drewN]); simp only [Act.put, List.setIfInBounds_toArray, List.set_cons_zero, List.set_cons_succ]
            go_wp2_with fail
            (with_reducible apply upon_float_bin); exact rfl; exact ha; exact (fv_int 42); intro b nb hb; (try rw [World.drewN_drewN]); simp only [Act.put, List.setIfInBounds_toArray, List.set_cons_zero, List.set_cons_succ]
            go_wp2_with fail
            (with_reducible apply upon_float_bin); exact rfl; exact (fvc rfl : Fv .f64 4607182418800017408 (some 4607182418800017408)); exact hb; intro c nc hc; (try rw [World.drewN_drewN]); simp only [Act.put, List.setIfInBounds_toArray, List.set_cons_zero, List.set_cons_succ]
            go_wp2_with fail
            go_roundw
            case rel => exact ⟨2, _, by omega, by go_num, rfl, hc, _, rfl⟩
            case measure => simp [intOf]
          · go_wp2_with fail
            (with_reducible apply upon_float_bin); exact rfl; exact hu; exact hp; intro a na ha; (try rw [World.drewN_drewN]); simp only [Act.put, List.setIfInBounds_toArray, List.set_cons_zero, List.set_cons_succ]
            go_wp2_with fail
            (with_reducible apply upon_float_bin); exact rfl; exact ha; exact (fv_int 72); intro b nb hb; (try rw [World.drewN_drewN]); simp only [Act.put, List.setIfInBounds_toArray, List.set_cons_zero, List.set_cons_succ]
            go_wp2_with fail
            (with_reducible apply upon_float_bin); exact rfl; exact (fvc rfl : Fv .f64 4607182418800017408 (some 4607182418800017408)); exact hb; intro c nc hc; (try rw [World.drewN_drewN]); simp only [Act.put, List.setIfInBounds_toArray, List.set_cons_zero, List.set_cons_succ]
            go_wp2_with fail
            go_roundw
            case rel => exact ⟨3, _, by omega, by go_num, rfl, hc, _, rfl⟩
            case measure => simp [intOf]
          · go_wp2_with fail
            (with_reducible apply upon_float_bin); exact rfl; exact hu; exact hp; intro a na ha; (try rw [World.drewN_drewN]); simp only [Act.put, List.setIfInBounds_toArray, List.set_cons_zero, List.set_cons_succ]
            go_wp2_with fail
            (with_reducible apply upon_float_bin); exact rfl; exact ha; exact (fv_int 110); intro b nb hb; (try rw [World.drewN_drewN]); simp only [Act.put, List.setIfInBounds_toArray, List.set_cons_zero, List.set_cons_succ]
            go_wp2_with fail
            (with_reducible apply upon_float_bin); exact rfl; exact (fvc rfl : Fv .f64 4607182418800017408 (some 4607182418800017408)); exact hb; intro c nc hc; (try rw [World.drewN_drewN]); simp only [Act.put, List.setIfInBounds_toArray, List.set_cons_zero, List.set_cons_succ]
            go_wp2_with fail
            go_roundw
            case rel => exact ⟨4, _, by omega, by go_num, rfl, hc, _, rfl⟩
            case measure => simp [intOf]
          · go_wp2_with fail
            (with_reducible apply upon_float_bin); exact rfl; exact hu; exact hp; intro a na ha; (try rw [World.drewN_drewN]); simp only [Act.put, List.setIfInBounds_toArray, List.set_cons_zero, List.set_cons_succ]
            go_wp2_with fail
            (with_reducible apply upon_float_bin); exact rfl; exact ha; exact (fv_int 156); intro b nb hb; (try rw [World.drewN_drewN]); simp only [Act.put, List.setIfInBounds_toArray, List.set_cons_zero, List.set_cons_succ]
            go_wp2_with fail
            (with_reducible apply upon_float_bin); exact rfl; exact (fvc rfl : Fv .f64 4607182418800017408 (some 4607182418800017408)); exact hb; intro c nc hc; (try rw [World.drewN_drewN]); simp only [Act.put, List.setIfInBounds_toArray, List.set_cons_zero, List.set_cons_succ]
            go_wp2_with fail
            go_roundw
            case rel => exact ⟨5, _, by omega, by go_num, rfl, hc, _, rfl⟩
            case measure => simp [intOf]
          · go_wp2_with fail
            (with_reducible apply upon_float_bin); exact rfl; exact hu; exact hp; intro a na ha; (try rw [World.drewN_drewN]); simp only [Act.put, List.setIfInBounds_toArray, List.set_cons_zero, List.set_cons_succ]
            go_wp2_with fail
            (with_reducible apply upon_float_bin); exact rfl; exact ha; exact (fv_int 210); intro b nb hb; (try rw [World.drewN_drewN]); simp only [Act.put, List.setIfInBounds_toArray, List.set_cons_zero, List.set_cons_succ]
            go_wp2_with fail
            (with_reducible apply upon_float_bin); exact rfl; exact (fvc rfl : Fv .f64 4607182418800017408 (some 4607182418800017408)); exact hb; intro c nc hc; (try rw [World.drewN_drewN]); simp only [Act.put, List.setIfInBounds_toArray, List.set_cons_zero, List.set_cons_succ]
            go_wp2_with fail
            go_roundw
            case rel => exact ⟨6, _, by omega, by go_num, rfl, hc, _, rfl⟩
            case measure => simp [intOf]
          · go_wp2_with fail
            (with_reducible apply upon_float_bin); exact rfl; exact hu; exact hp; intro a na ha; (try rw [World.drewN_drewN]); simp only [Act.put, List.setIfInBounds_toArray, List.set_cons_zero, List.set_cons_succ]
            go_wp2_with fail
            (with_reducible apply upon_float_bin); exact rfl; exact ha; exact (fv_int 272); intro b nb hb; (try rw [World.drewN_drewN]); simp only [Act.put, List.setIfInBounds_toArray, List.set_cons_zero, List.set_cons_succ]
            go_wp2_with fail
            (with_reducible apply upon_float_bin); exact rfl; exact (fvc rfl : Fv .f64 4607182418800017408 (some 4607182418800017408)); exact hb; intro c nc hc; (try rw [World.drewN_drewN]); simp only [Act.put, List.setIfInBounds_toArray, List.set_cons_zero, List.set_cons_succ]
            go_wp2_with fail
            go_roundw
            case rel => exact ⟨7, _, by omega, by go_num, rfl, hc, _, rfl⟩
            case measure => simp [intOf]
      | true =>
        rw [q2] at og
        go_wp2_with fail
        (with_reducible apply upon_float_bin); exact rfl; exact (fvc rfl : Fv .f64 4602678819172646912 (some 4602678819172646912)); exact hr0; intro r2 nr2 hr2; (try rw [World.drewN_drewN]); simp only [Act.put, List.setIfInBounds_toArray, List.set_cons_zero, List.set_cons_succ]
        go_wp2_with fail
        (with_reducible apply upon_float_bin); exact rfl; exact hr2; exact (fvc rfl : Fv .f64 4618760256179416344 (some 4618760256179416344)); intro z nz hz; (try rw [World.drewN_drewN]); simp only [Act.put, List.setIfInBounds_toArray, List.set_cons_zero, List.set_cons_succ]
        obtain ⟨Z, hZ⟩ : ∃ Z, Z = M6 (B6 half6 (F)) whole6 := ⟨_, rfl⟩
        replace hz : Fv .f64 z Z := by rw [hZ]; exact hz
        have HC := Lib.hid (show sineC F = M6 Z (itS (M6 Z Z) 8) by rw [hZ]; simp only [sineC, sinF, sinG, sinP, q1, q2])
        clear hZ
        go_wp2_with fail
        (with_reducible apply upon_float_bin); exact rfl; exact hz; exact hz; intro u nu hu; (try rw [World.drewN_drewN]); simp only [Act.put, List.setIfInBounds_toArray, List.set_cons_zero, List.set_cons_succ]
        go_wp2_with fail
        go_loopw [7, 8] (fun pp i wr => ∃ j r : Nat, j ≤ 8 ∧ i = .int .i64 j ∧ pp = .float .f64 r ∧ Fv .f64 r (itS (M6 Z Z) (8 - j)) ∧ ∃ n, wr = w.drewN n) (fun _ i _ => (intOf i).toNat)
        case atStart => exact ⟨8, _, by omega, rfl, rfl, (fvc rfl : Fv .f64 4607182418800017408 (some 4607182418800017408)), _, rfl⟩
        case round =>
          obtain ⟨j, rp, hj, rfl, rfl, hp, n, rfl⟩ := hrel
          have hcase : j = 0 ∨ j = 1 ∨ j = 2 ∨ j = 3 ∨ j = 4 ∨ j = 5 ∨ j = 6 ∨ j = 7 ∨ j = 8 := by omega
          clear hj
          rcases hcase with rfl | rfl | rfl | rfl | rfl | rfl | rfl | rfl | rfl
          · go_wp2_with fail
            (with_reducible apply upon_float_bin); exact rfl; exact hz; exact hp; intro v nv hv; (try rw [World.drewN_drewN]); simp only [Act.put, List.setIfInBounds_toArray, List.set_cons_zero, List.set_cons_succ]
            go_wp2_with fail
            go_ret
            refine ⟨⟨_, rfl, ?_⟩, _, rfl⟩
            rw [HE.out]; rw [HC.out]
            exact hv
          · go_wp2_with fail
            (with_reducible apply upon_float_bin); exact rfl; exact hu; exact hp; intro a na ha; (try rw [World.drewN_drewN]); simp only [Act.put, List.setIfInBounds_toArray, List.set_cons_zero, List.set_cons_succ]
            go_wp2_with fail
            (with_reducible apply upon_float_bin); exact rfl; exact ha; exact (fv_int 6); intro b nb hb; (try rw [World.drewN_drewN]); simp only [Act.put, List.setIfInBounds_toArray, List.set_cons_zero, List.set_cons_succ]
            go_wp2_with fail
            (with_reducible apply upon_float_bin); exact rfl; exact (fvc rfl : Fv .f64 4607182418800017408 (some 4607182418800017408)); exact hb; intro c nc hc; (try rw [World.drewN_drewN]); simp only [Act.put, List.setIfInBounds_toArray, List.set_cons_zero, List.set_cons_succ]
            go_wp2_with fail
            go_roundw
            case rel => exact ⟨0, _, by omega, by go_num, rfl, hc, _, rfl⟩
            case measure => simp [intOf]
          · go_wp2_with fail
            (with_reducible apply upon_float_bin); exact rfl; exact hu; exact hp; intro a na ha; (try rw [World.drewN_drewN]); simp only [Act.put, List.setIfInBounds_toArray, List.set_cons_zero, List.set_cons_succ]
            go_wp2_with fail
            (with_reducible apply upon_float_bin); exact rfl; exact ha; exact (fv_int 20); intro b nb hb; (try rw [World.drewN_drewN]); simp only [Act.put, List.setIfInBounds_toArray, List.set_cons_zero, List.set_cons_succ]
            go_wp2_with fail
            (with_reducible apply upon_float_bin); exact rfl; exact (fvc rfl : Fv .f64 4607182418800017408 (some 4607182418800017408)); exact hb; intro c nc hc; (try rw [World.drewN_drewN]); simp only [Act.put, List.setIfInBounds_toArray, List.set_cons_zero, List.set_cons_succ]
            go_wp2_with fail
            go_roundw
            case rel => exact ⟨1, _, by omega, by go_num, rfl, hc, _, rfl⟩
            case measure => simp [intOf]
          · go_wp2_with fail
            (with_reducible apply upon_float_bin); exact rfl; exact hu; exact hp; intro a na ha; (try rw [World.drewN_drewN]); simp only [Act.put, List.setIfInBounds_toArray, List.set_cons_zero, List.set_cons_succ]
            go_wp2_with fail
            (with_reducible apply upon_float_bin); exact rfl; exact ha; exact (fv_int 42); intro b nb hb; (try rw [World.drewN_drewN]); simp only [Act.put, List.setIfInBounds_toArray, List.set_cons_zero, List.set_cons_succ]
            go_wp2_with fail
            (with_reducible apply upon_float_bin); exact rfl; exact (fvc rfl : Fv .f64 4607182418800017408 (some 4607182418800017408)); exact hb; intro c nc hc; (try rw [World.drewN_drewN]); simp only [Act.put, List.setIfInBounds_toArray, List.set_cons_zero, List.set_cons_succ]
            go_wp2_with fail
            go_roundw
            case rel => exact ⟨2, _, by omega, by go_num, rfl, hc, _, rfl⟩
            case measure => simp [intOf]
          · go_wp2_with fail
            (with_reducible apply upon_float_bin); exact rfl; exact hu; exact hp; intro a na ha; (try rw [World.drewN_drewN]); simp only [Act.put, List.setIfInBounds_toArray, List.set_cons_zero, List.set_cons_succ]
            go_wp2_with fail
            (with_reducible apply upon_float_bin); exact rfl; exact ha; exact (fv_int 72); intro b nb hb; (try rw [World.drewN_drewN]); simp only [Act.put, List.setIfInBounds_toArray, List.set_cons_zero, List.set_cons_succ]
            go_wp2_with fail
            (with_reducible apply upon_float_bin); exact rfl; exact (fvc rfl : Fv .f64 4607182418800017408 (some 4607182418800017408)); exact hb; intro c nc hc; (try rw [World.drewN_drewN]); simp only [Act.put, List.setIfInBounds_toArray, List.set_cons_zero, List.set_cons_succ]
            go_wp2_with fail
            go_roundw
            case rel => exact ⟨3, _, by omega, by go_num, rfl, hc, _, rfl⟩
            case measure => simp [intOf]
          · go_wp2_with fail
            (with_reducible apply upon_float_bin); exact rfl; exact hu; exact hp; intro a na ha; (try rw [World.drewN_drewN]); simp only [Act.put, List.setIfInBounds_toArray, List.set_cons_zero, List.set_cons_succ]
            go_wp2_with fail
            (with_reducible apply upon_float_bin); exact rfl; exact ha; exact (fv_int 110); intro b nb hb; (try rw [World.drewN_drewN]); simp only [Act.put, List.setIfInBounds_toArray, List.set_cons_zero, List.set_cons_succ]
            go_wp2_with fail
            (with_reducible apply upon_float_bin); exact rfl; exact (fvc rfl : Fv .f64 4607182418800017408 (some 4607182418800017408)); exact hb; intro c nc hc; (try rw [World.drewN_drewN]); simp only [Act.put, List.setIfInBounds_toArray, List.set_cons_zero, List.set_cons_succ]
            go_wp2_with fail
            go_roundw
            case rel => exact ⟨4, _, by omega, by go_num, rfl, hc, _, rfl⟩
            case measure => simp [intOf]
          · go_wp2_with fail
            (with_reducible apply upon_float_bin); exact rfl; exact hu; exact hp; intro a na ha; (try rw [World.drewN_drewN]); simp only [Act.put, List.setIfInBounds_toArray, List.set_cons_zero, List.set_cons_succ]
            go_wp2_with fail
            (with_reducible apply upon_float_bin); exact rfl; exact ha; exact (fv_int 156); intro b nb hb; (try rw [World.drewN_drewN]); simp only [Act.put, List.setIfInBounds_toArray, List.set_cons_zero, List.set_cons_succ]
            go_wp2_with fail
            (with_reducible apply upon_float_bin); exact rfl; exact (fvc rfl : Fv .f64 4607182418800017408 (some 4607182418800017408)); exact hb; intro c nc hc; (try rw [World.drewN_drewN]); simp only [Act.put, List.setIfInBounds_toArray, List.set_cons_zero, List.set_cons_succ]
            go_wp2_with fail
            go_roundw
            case rel => exact ⟨5, _, by omega, by go_num, rfl, hc, _, rfl⟩
            case measure => simp [intOf]
          · go_wp2_with fail
            (with_reducible apply upon_float_bin); exact rfl; exact hu; exact hp; intro a na ha; (try rw [World.drewN_drewN]); simp only [Act.put, List.setIfInBounds_toArray, List.set_cons_zero, List.set_cons_succ]
            go_wp2_with fail
            (with_reducible apply upon_float_bin); exact rfl; exact ha; exact (fv_int 210); intro b nb hb; (try rw [World.drewN_drewN]); simp only [Act.put, List.setIfInBounds_toArray, List.set_cons_zero, List.set_cons_succ]
            go_wp2_with fail
            (with_reducible apply upon_float_bin); exact rfl; exact (fvc rfl : Fv .f64 4607182418800017408 (some 4607182418800017408)); exact hb; intro c nc hc; (try rw [World.drewN_drewN]); simp only [Act.put, List.setIfInBounds_toArray, List.set_cons_zero, List.set_cons_succ]
            go_wp2_with fail
            go_roundw
            case rel => exact ⟨6, _, by omega, by go_num, rfl, hc, _, rfl⟩
            case measure => simp [intOf]
          · go_wp2_with fail
            (with_reducible apply upon_float_bin); exact rfl; exact hu; exact hp; intro a na ha; (try rw [World.drewN_drewN]); simp only [Act.put, List.setIfInBounds_toArray, List.set_cons_zero, List.set_cons_succ]
            go_wp2_with fail
            (with_reducible apply upon_float_bin); exact rfl; exact ha; exact (fv_int 272); intro b nb hb; (try rw [World.drewN_drewN]); simp only [Act.put, List.setIfInBounds_toArray, List.set_cons_zero, List.set_cons_succ]
            go_wp2_with fail
            (with_reducible apply upon_float_bin); exact rfl; exact (fvc rfl : Fv .f64 4607182418800017408 (some 4607182418800017408)); exact hb; intro c nc hc; (try rw [World.drewN_drewN]); simp only [Act.put, List.setIfInBounds_toArray, List.set_cons_zero, List.set_cons_succ]
            go_wp2_with fail
            go_roundw
            case rel => exact ⟨7, _, by omega, by go_num, rfl, hc, _, rfl⟩
            case measure => simp [intOf]
    | true =>
      rw [q1] at ogt
      go_wp2_with fail
      (with_reducible apply upon_float_bin); exact rfl; exact hr0; exact (fvc rfl : Fv .f64 4602678819172646912 (some 4602678819172646912)); intro r1 nr1 hr1; (try rw [World.drewN_drewN]); simp only [Act.put, List.setIfInBounds_toArray, List.set_cons_zero, List.set_cons_succ]
      have og : (FloatKind.f64.format.order r1 4598175219545276416 == some .gt) = gt6 (B6 F half6) quarter6 := by rw [order_fv hr1 (fvc rfl : Fv .f64 4598175219545276416 (some 4598175219545276416))]; rfl
      cases q2 : gt6 (B6 F half6) quarter6 with
      | false =>
        rw [q2] at og
        go_wp2_with fail
        (with_reducible apply upon_float_bin); exact rfl; exact hr1; exact (fvc rfl : Fv .f64 4618760256179416344 (some 4618760256179416344)); intro z nz hz; (try rw [World.drewN_drewN]); simp only [Act.put, List.setIfInBounds_toArray, List.set_cons_zero, List.set_cons_succ]
        obtain ⟨Z, hZ⟩ : ∃ Z, Z = M6 (B6 F half6) whole6 := ⟨_, rfl⟩
        replace hz : Fv .f64 z Z := by rw [hZ]; exact hz
        have HC := Lib.hid (show sineC F = fneg .f64 (M6 Z (itS (M6 Z Z) 8)) by rw [hZ]; simp only [sineC, sinF, sinG, sinP, q1, q2])
        clear hZ
        go_wp2_with fail
        (with_reducible apply upon_float_bin); exact rfl; exact hz; exact hz; intro u nu hu; (try rw [World.drewN_drewN]); simp only [Act.put, List.setIfInBounds_toArray, List.set_cons_zero, List.set_cons_succ]
        go_wp2_with fail
        go_loopw [7, 8] (fun pp i wr => ∃ j r : Nat, j ≤ 8 ∧ i = .int .i64 j ∧ pp = .float .f64 r ∧ Fv .f64 r (itS (M6 Z Z) (8 - j)) ∧ ∃ n, wr = w.drewN n) (fun _ i _ => (intOf i).toNat)
        case atStart => exact ⟨8, _, by omega, rfl, rfl, (fvc rfl : Fv .f64 4607182418800017408 (some 4607182418800017408)), _, rfl⟩
        case round =>
          obtain ⟨j, rp, hj, rfl, rfl, hp, n, rfl⟩ := hrel
          have hcase : j = 0 ∨ j = 1 ∨ j = 2 ∨ j = 3 ∨ j = 4 ∨ j = 5 ∨ j = 6 ∨ j = 7 ∨ j = 8 := by omega
          clear hj
          rcases hcase with rfl | rfl | rfl | rfl | rfl | rfl | rfl | rfl | rfl
          · go_wp2_with fail
            (with_reducible apply upon_float_bin); exact rfl; exact hz; exact hp; intro v nv hv; (try rw [World.drewN_drewN]); simp only [Act.put, List.setIfInBounds_toArray, List.set_cons_zero, List.set_cons_succ]
            go_wp2_with fail
            go_ret
            refine ⟨⟨_, rfl, ?_⟩, _, rfl⟩
            rw [HE.out]; rw [HC.out]
            exact Fv.neg hv
          · go_wp2_with fail
            (with_reducible apply upon_float_bin); exact rfl; exact hu; exact hp; intro a na ha; (try rw [World.drewN_drewN]); simp only [Act.put, List.setIfInBounds_toArray, List.set_cons_zero, List.set_cons_succ]
            go_wp2_with fail
            (with_reducible apply upon_float_bin); exact rfl; exact ha; exact (fv_int 6); intro b nb hb; (try rw [World.drewN_drewN]); simp only [Act.put, List.setIfInBounds_toArray, List.set_cons_zero, List.set_cons_succ]
            go_wp2_with fail
            (with_reducible apply upon_float_bin); exact rfl; exact (fvc rfl : Fv .f64 4607182418800017408 (some 4607182418800017408)); exact hb; intro c nc hc; (try rw [World.drewN_drewN]); simp only [Act.put, List.setIfInBounds_toArray, List.set_cons_zero, List.set_cons_succ]
            go_wp2_with fail
            go_roundw
            case rel => exact ⟨0, _, by omega, by go_num, rfl, hc, _, rfl⟩
            case measure => simp [intOf]
          · go_wp2_with fail
            (with_reducible apply upon_float_bin); exact rfl; exact hu; exact hp; intro a na ha; (try rw [World.drewN_drewN]); simp only [Act.put, List.setIfInBounds_toArray, List.set_cons_zero, List.set_cons_succ]
            go_wp2_with fail
            (with_reducible apply upon_float_bin); exact rfl; exact ha; exact (fv_int 20); intro b nb hb; (try rw [World.drewN_drewN]); simp only [Act.put, List.setIfInBounds_toArray, List.set_cons_zero, List.set_cons_succ]
            go_wp2_with fail
            (with_reducible apply upon_float_bin); exact rfl; exact (fvc rfl : Fv .f64 4607182418800017408 (some 4607182418800017408)); exact hb; intro c nc hc; (try rw [World.drewN_drewN]); simp only [Act.put, List.setIfInBounds_toArray, List.set_cons_zero, List.set_cons_succ]
            go_wp2_with fail
            go_roundw
            case rel => exact ⟨1, _, by omega, by go_num, rfl, hc, _, rfl⟩
            case measure => simp [intOf]
          · go_wp2_with fail
            (with_reducible apply upon_float_bin); exact rfl; exact hu; exact hp; intro a na ha; (try rw [World.drewN_drewN]); simp only [Act.put, List.setIfInBounds_toArray, List.set_cons_zero, List.set_cons_succ]
            go_wp2_with fail
            (with_reducible apply upon_float_bin); exact rfl; exact ha; exact (fv_int 42); intro b nb hb; (try rw [World.drewN_drewN]); simp only [Act.put, List.setIfInBounds_toArray, List.set_cons_zero, List.set_cons_succ]
            go_wp2_with fail
            (with_reducible apply upon_float_bin); exact rfl; exact (fvc rfl : Fv .f64 4607182418800017408 (some 4607182418800017408)); exact hb; intro c nc hc; (try rw [World.drewN_drewN]); simp only [Act.put, List.setIfInBounds_toArray, List.set_cons_zero, List.set_cons_succ]
            go_wp2_with fail
            go_roundw
            case rel => exact ⟨2, _, by omega, by go_num, rfl, hc, _, rfl⟩
            case measure => simp [intOf]
          · go_wp2_with fail
            (with_reducible apply upon_float_bin); exact rfl; exact hu; exact hp; intro a na ha; (try rw [World.drewN_drewN]); simp only [Act.put, List.setIfInBounds_toArray, List.set_cons_zero, List.set_cons_succ]
            go_wp2_with fail
            (with_reducible apply upon_float_bin); exact rfl; exact ha; exact (fv_int 72); intro b nb hb; (try rw [World.drewN_drewN]); simp only [Act.put, List.setIfInBounds_toArray, List.set_cons_zero, List.set_cons_succ]
            go_wp2_with fail
            (with_reducible apply upon_float_bin); exact rfl; exact (fvc rfl : Fv .f64 4607182418800017408 (some 4607182418800017408)); exact hb; intro c nc hc; (try rw [World.drewN_drewN]); simp only [Act.put, List.setIfInBounds_toArray, List.set_cons_zero, List.set_cons_succ]
            go_wp2_with fail
            go_roundw
            case rel => exact ⟨3, _, by omega, by go_num, rfl, hc, _, rfl⟩
            case measure => simp [intOf]
          · go_wp2_with fail
            (with_reducible apply upon_float_bin); exact rfl; exact hu; exact hp; intro a na ha; (try rw [World.drewN_drewN]); simp only [Act.put, List.setIfInBounds_toArray, List.set_cons_zero, List.set_cons_succ]
            go_wp2_with fail
            (with_reducible apply upon_float_bin); exact rfl; exact ha; exact (fv_int 110); intro b nb hb; (try rw [World.drewN_drewN]); simp only [Act.put, List.setIfInBounds_toArray, List.set_cons_zero, List.set_cons_succ]
            go_wp2_with fail
            (with_reducible apply upon_float_bin); exact rfl; exact (fvc rfl : Fv .f64 4607182418800017408 (some 4607182418800017408)); exact hb; intro c nc hc; (try rw [World.drewN_drewN]); simp only [Act.put, List.setIfInBounds_toArray, List.set_cons_zero, List.set_cons_succ]
            go_wp2_with fail
            go_roundw
            case rel => exact ⟨4, _, by omega, by go_num, rfl, hc, _, rfl⟩
            case measure => simp [intOf]
          · go_wp2_with fail
            (with_reducible apply upon_float_bin); exact rfl; exact hu; exact hp; intro a na ha; (try rw [World.drewN_drewN]); simp only [Act.put, List.setIfInBounds_toArray, List.set_cons_zero, List.set_cons_succ]
            go_wp2_with fail
            (with_reducible apply upon_float_bin); exact rfl; exact ha; exact (fv_int 156); intro b nb hb; (try rw [World.drewN_drewN]); simp only [Act.put, List.setIfInBounds_toArray, List.set_cons_zero, List.set_cons_succ]
            go_wp2_with fail
            (with_reducible apply upon_float_bin); exact rfl; exact (fvc rfl : Fv .f64 4607182418800017408 (some 4607182418800017408)); exact hb; intro c nc hc; (try rw [World.drewN_drewN]); simp only [Act.put, List.setIfInBounds_toArray, List.set_cons_zero, List.set_cons_succ]
            go_wp2_with fail
            go_roundw
            case rel => exact ⟨5, _, by omega, by go_num, rfl, hc, _, rfl⟩
            case measure => simp [intOf]
          · go_wp2_with fail
            (with_reducible apply upon_float_bin); exact rfl; exact hu; exact hp; intro a na ha; (try rw [World.drewN_drewN]); simp only [Act.put, List.setIfInBounds_toArray, List.set_cons_zero, List.set_cons_succ]
            go_wp2_with fail
            (with_reducible apply upon_float_bin); exact rfl; exact ha; exact (fv_int 210); intro b nb hb; (try rw [World.drewN_drewN]); simp only [Act.put, List.setIfInBounds_toArray, List.set_cons_zero, List.set_cons_succ]
            go_wp2_with fail
            (with_reducible apply upon_float_bin); exact rfl; exact (fvc rfl : Fv .f64 4607182418800017408 (some 4607182418800017408)); exact hb; intro c nc hc; (try rw [World.drewN_drewN]); simp only [Act.put, List.setIfInBounds_toArray, List.set_cons_zero, List.set_cons_succ]
            go_wp2_with fail
            go_roundw
            case rel => exact ⟨6, _, by omega, by go_num, rfl, hc, _, rfl⟩
            case measure => simp [intOf]
          · go_wp2_with fail
            (with_reducible apply upon_float_bin); exact rfl; exact hu; exact hp; intro a na ha; (try rw [World.drewN_drewN]); simp only [Act.put, List.setIfInBounds_toArray, List.set_cons_zero, List.set_cons_succ]
            go_wp2_with fail
            (with_reducible apply upon_float_bin); exact rfl; exact ha; exact (fv_int 272); intro b nb hb; (try rw [World.drewN_drewN]); simp only [Act.put, List.setIfInBounds_toArray, List.set_cons_zero, List.set_cons_succ]
            go_wp2_with fail
            (with_reducible apply upon_float_bin); exact rfl; exact (fvc rfl : Fv .f64 4607182418800017408 (some 4607182418800017408)); exact hb; intro c nc hc; (try rw [World.drewN_drewN]); simp only [Act.put, List.setIfInBounds_toArray, List.set_cons_zero, List.set_cons_succ]
            go_wp2_with fail
            go_roundw
            case rel => exact ⟨7, _, by omega, by go_num, rfl, hc, _, rfl⟩
            case measure => simp [intOf]
      | true =>
        rw [q2] at og
        go_wp2_with fail
        (with_reducible apply upon_float_bin); exact rfl; exact (fvc rfl : Fv .f64 4602678819172646912 (some 4602678819172646912)); exact hr1; intro r2 nr2 hr2; (try rw [World.drewN_drewN]); simp only [Act.put, List.setIfInBounds_toArray, List.set_cons_zero, List.set_cons_succ]
        go_wp2_with fail
        (with_reducible apply upon_float_bin); exact rfl; exact hr2; exact (fvc rfl : Fv .f64 4618760256179416344 (some 4618760256179416344)); intro z nz hz; (try rw [World.drewN_drewN]); simp only [Act.put, List.setIfInBounds_toArray, List.set_cons_zero, List.set_cons_succ]
        obtain ⟨Z, hZ⟩ : ∃ Z, Z = M6 (B6 half6 (B6 F half6)) whole6 := ⟨_, rfl⟩
        replace hz : Fv .f64 z Z := by rw [hZ]; exact hz
        have HC := Lib.hid (show sineC F = fneg .f64 (M6 Z (itS (M6 Z Z) 8)) by rw [hZ]; simp only [sineC, sinF, sinG, sinP, q1, q2])
        clear hZ
        go_wp2_with fail
        (with_reducible apply upon_float_bin); exact rfl; exact hz; exact hz; intro u nu hu; (try rw [World.drewN_drewN]); simp only [Act.put, List.setIfInBounds_toArray, List.set_cons_zero, List.set_cons_succ]
        go_wp2_with fail
        go_loopw [7, 8] (fun pp i wr => ∃ j r : Nat, j ≤ 8 ∧ i = .int .i64 j ∧ pp = .float .f64 r ∧ Fv .f64 r (itS (M6 Z Z) (8 - j)) ∧ ∃ n, wr = w.drewN n) (fun _ i _ => (intOf i).toNat)
        case atStart => exact ⟨8, _, by omega, rfl, rfl, (fvc rfl : Fv .f64 4607182418800017408 (some 4607182418800017408)), _, rfl⟩
        case round =>
          obtain ⟨j, rp, hj, rfl, rfl, hp, n, rfl⟩ := hrel
          have hcase : j = 0 ∨ j = 1 ∨ j = 2 ∨ j = 3 ∨ j = 4 ∨ j = 5 ∨ j = 6 ∨ j = 7 ∨ j = 8 := by omega
          clear hj
          rcases hcase with rfl | rfl | rfl | rfl | rfl | rfl | rfl | rfl | rfl
          · go_wp2_with fail
            (with_reducible apply upon_float_bin); exact rfl; exact hz; exact hp; intro v nv hv; (try rw [World.drewN_drewN]); simp only [Act.put, List.setIfInBounds_toArray, List.set_cons_zero, List.set_cons_succ]
            go_wp2_with fail
            go_ret
            refine ⟨⟨_, rfl, ?_⟩, _, rfl⟩
            rw [HE.out]; rw [HC.out]
            exact Fv.neg hv
          · go_wp2_with fail
            (with_reducible apply upon_float_bin); exact rfl; exact hu; exact hp; intro a na ha; (try rw [World.drewN_drewN]); simp only [Act.put, List.setIfInBounds_toArray, List.set_cons_zero, List.set_cons_succ]
            go_wp2_with fail
            (with_reducible apply upon_float_bin); exact rfl; exact ha; exact (fv_int 6); intro b nb hb; (try rw [World.drewN_drewN]); simp only [Act.put, List.setIfInBounds_toArray, List.set_cons_zero, List.set_cons_succ]
            go_wp2_with fail
            (with_reducible apply upon_float_bin); exact rfl; exact (fvc rfl : Fv .f64 4607182418800017408 (some 4607182418800017408)); exact hb; intro c nc hc; (try rw [World.drewN_drewN]); simp only [Act.put, List.setIfInBounds_toArray, List.set_cons_zero, List.set_cons_succ]
            go_wp2_with fail
            go_roundw
            case rel => exact ⟨0, _, by omega, by go_num, rfl, hc, _, rfl⟩
            case measure => simp [intOf]
          · go_wp2_with fail
            (with_reducible apply upon_float_bin); exact rfl; exact hu; exact hp; intro a na ha; (try rw [World.drewN_drewN]); simp only [Act.put, List.setIfInBounds_toArray, List.set_cons_zero, List.set_cons_succ]
            go_wp2_with fail
            (with_reducible apply upon_float_bin); exact rfl; exact ha; exact (fv_int 20); intro b nb hb; (try rw [World.drewN_drewN]); simp only [Act.put, List.setIfInBounds_toArray, List.set_cons_zero, List.set_cons_succ]
            go_wp2_with fail
            (with_reducible apply upon_float_bin); exact rfl; exact (fvc rfl : Fv .f64 4607182418800017408 (some 4607182418800017408)); exact hb; intro c nc hc; (try rw [World.drewN_drewN]); simp only [Act.put, List.setIfInBounds_toArray, List.set_cons_zero, List.set_cons_succ]
            go_wp2_with fail
            go_roundw
            case rel => exact ⟨1, _, by omega, by go_num, rfl, hc, _, rfl⟩
            case measure => simp [intOf]
          · go_wp2_with fail
            (with_reducible apply upon_float_bin); exact rfl; exact hu; exact hp; intro a na ha; (try rw [World.drewN_drewN]); simp only [Act.put, List.setIfInBounds_toArray, List.set_cons_zero, List.set_cons_succ]
            go_wp2_with fail
            (with_reducible apply upon_float_bin); exact rfl; exact ha; exact (fv_int 42); intro b nb hb; (try rw [World.drewN_drewN]); simp only [Act.put, List.setIfInBounds_toArray, List.set_cons_zero, List.set_cons_succ]
            go_wp2_with fail
            (with_reducible apply upon_float_bin); exact rfl; exact (fvc rfl : Fv .f64 4607182418800017408 (some 4607182418800017408)); exact hb; intro c nc hc; (try rw [World.drewN_drewN]); simp only [Act.put, List.setIfInBounds_toArray, List.set_cons_zero, List.set_cons_succ]
            go_wp2_with fail
            go_roundw
            case rel => exact ⟨2, _, by omega, by go_num, rfl, hc, _, rfl⟩
            case measure => simp [intOf]
          · go_wp2_with fail
            (with_reducible apply upon_float_bin); exact rfl; exact hu; exact hp; intro a na ha; (try rw [World.drewN_drewN]); simp only [Act.put, List.setIfInBounds_toArray, List.set_cons_zero, List.set_cons_succ]
            go_wp2_with fail
            (with_reducible apply upon_float_bin); exact rfl; exact ha; exact (fv_int 72); intro b nb hb; (try rw [World.drewN_drewN]); simp only [Act.put, List.setIfInBounds_toArray, List.set_cons_zero, List.set_cons_succ]
            go_wp2_with fail
            (with_reducible apply upon_float_bin); exact rfl; exact (fvc rfl : Fv .f64 4607182418800017408 (some 4607182418800017408)); exact hb; intro c nc hc; (try rw [World.drewN_drewN]); simp only [Act.put, List.setIfInBounds_toArray, List.set_cons_zero, List.set_cons_succ]
            go_wp2_with fail
            go_roundw
            case rel => exact ⟨3, _, by omega, by go_num, rfl, hc, _, rfl⟩
            case measure => simp [intOf]
          · go_wp2_with fail
            (with_reducible apply upon_float_bin); exact rfl; exact hu; exact hp; intro a na ha; (try rw [World.drewN_drewN]); simp only [Act.put, List.setIfInBounds_toArray, List.set_cons_zero, List.set_cons_succ]
            go_wp2_with fail
            (with_reducible apply upon_float_bin); exact rfl; exact ha; exact (fv_int 110); intro b nb hb; (try rw [World.drewN_drewN]); simp only [Act.put, List.setIfInBounds_toArray, List.set_cons_zero, List.set_cons_succ]
            go_wp2_with fail
            (with_reducible apply upon_float_bin); exact rfl; exact (fvc rfl : Fv .f64 4607182418800017408 (some 4607182418800017408)); exact hb; intro c nc hc; (try rw [World.drewN_drewN]); simp only [Act.put, List.setIfInBounds_toArray, List.set_cons_zero, List.set_cons_succ]
            go_wp2_with fail
            go_roundw
            case rel => exact ⟨4, _, by omega, by go_num, rfl, hc, _, rfl⟩
            case measure => simp [intOf]
          · go_wp2_with fail
            (with_reducible apply upon_float_bin); exact rfl; exact hu; exact hp; intro a na ha; (try rw [World.drewN_drewN]); simp only [Act.put, List.setIfInBounds_toArray, List.set_cons_zero, List.set_cons_succ]
            go_wp2_with fail
            (with_reducible apply upon_float_bin); exact rfl; exact ha; exact (fv_int 156); intro b nb hb; (try rw [World.drewN_drewN]); simp only [Act.put, List.setIfInBounds_toArray, List.set_cons_zero, List.set_cons_succ]
            go_wp2_with fail
            (with_reducible apply upon_float_bin); exact rfl; exact (fvc rfl : Fv .f64 4607182418800017408 (some 4607182418800017408)); exact hb; intro c nc hc; (try rw [World.drewN_drewN]); simp only [Act.put, List.setIfInBounds_toArray, List.set_cons_zero, List.set_cons_succ]
            go_wp2_with fail
            go_roundw
            case rel => exact ⟨5, _, by omega, by go_num, rfl, hc, _, rfl⟩
            case measure => simp [intOf]
          · go_wp2_with fail
            (with_reducible apply upon_float_bin); exact rfl; exact hu; exact hp; intro a na ha; (try rw [World.drewN_drewN]); simp only [Act.put, List.setIfInBounds_toArray, List.set_cons_zero, List.set_cons_succ]
            go_wp2_with fail
            (with_reducible apply upon_float_bin); exact rfl; exact ha; exact (fv_int 210); intro b nb hb; (try rw [World.drewN_drewN]); simp only [Act.put, List.setIfInBounds_toArray, List.set_cons_zero, List.set_cons_succ]
            go_wp2_with fail
            (with_reducible apply upon_float_bin); exact rfl; exact (fvc rfl : Fv .f64 4607182418800017408 (some 4607182418800017408)); exact hb; intro c nc hc; (try rw [World.drewN_drewN]); simp only [Act.put, List.setIfInBounds_toArray, List.set_cons_zero, List.set_cons_succ]
            go_wp2_with fail
            go_roundw
            case rel => exact ⟨6, _, by omega, by go_num, rfl, hc, _, rfl⟩
            case measure => simp [intOf]
          · go_wp2_with fail
            (with_reducible apply upon_float_bin); exact rfl; exact hu; exact hp; intro a na ha; (try rw [World.drewN_drewN]); simp only [Act.put, List.setIfInBounds_toArray, List.set_cons_zero, List.set_cons_succ]
            go_wp2_with fail
            (with_reducible apply upon_float_bin); exact rfl; exact ha; exact (fv_int 272); intro b nb hb; (try rw [World.drewN_drewN]); simp only [Act.put, List.setIfInBounds_toArray, List.set_cons_zero, List.set_cons_succ]
            go_wp2_with fail
            (with_reducible apply upon_float_bin); exact rfl; exact (fvc rfl : Fv .f64 4607182418800017408 (some 4607182418800017408)); exact hb; intro c nc hc; (try rw [World.drewN_drewN]); simp only [Act.put, List.setIfInBounds_toArray, List.set_cons_zero, List.set_cons_succ]
            go_wp2_with fail
            go_roundw
            case rel => exact ⟨7, _, by omega, by go_num, rfl, hc, _, rfl⟩
            case measure => simp [intOf]

theorem c_spec_l01SineWide {x : Nat} {c : Option Nat} (h : Fv .f64 x c) (w : World) : Calls Try.prog 35 #[.float .f64 x] w (Ret6 (wideSineC c) w) := by
  cases q1 : finK .f64 c with
  | false =>
    have e : wideSineC c = none := by unfold wideSineC; rw [q1]
    rw [e]; clear e
    go_enter Try.func35, Try.ntmps35
    go_wp2_with fail
    (with_reducible apply upon_float_bin); exact rfl; exact h; exact h; intro r nr hr; (try rw [World.drewN_drewN]); simp only [Act.put, List.setIfInBounds_toArray, List.set_cons_zero, List.set_cons_succ]
    have o1 : (FloatKind.f64.format.order r 0 == some .eq) = false := by rw [order_fv hr (fvc rfl : Fv .f64 0 (some 0))]; exact q1
    have o1' : (FloatKind.f64.format.order r 0 != some .eq) = true := by rw [bne, o1]; rfl
    go_wp2_with fail
    refine (c_math_NaN _).mono ?_; rintro e w' ⟨⟨r2, rfl, hr2⟩, m, rfl⟩
    go_wp2_with fail
    go_ret
    exact ⟨⟨_, rfl, hr2⟩, _, rfl⟩
  | true =>
    obtain ⟨rfl, hf⟩ := fin_some h q1
    cases q2 : bigB (some x) with
    | true =>
      have e : wideSineC (some x) = some 0 := by unfold wideSineC; rw [q1, q2]
      rw [e]; clear e
      have hbig := big_two h
      rw [q2] at hbig
      cases hg1 : (FloatKind.f64.format.order x 4841369599423283200 == some .gt || FloatKind.f64.format.order x 4841369599423283200 == some .eq) with
      | true =>
        clear hbig hf
        go_enter Try.func35, Try.ntmps35
        go_wp2_with fail
        (with_reducible apply upon_float_bin); exact rfl; exact h; exact h; intro r nr hr; (try rw [World.drewN_drewN]); simp only [Act.put, List.setIfInBounds_toArray, List.set_cons_zero, List.set_cons_succ]
        have o1 : (FloatKind.f64.format.order r 0 == some .eq) = true := by rw [order_fv hr (fvc rfl : Fv .f64 0 (some 0))]; exact q1
        have o1' : (FloatKind.f64.format.order r 0 != some .eq) = false := by rw [bne, o1]; rfl
        go_wp2_with fail
        go_ret
        exact ⟨⟨_, rfl, (fvc rfl : Fv .f64 0 (some 0))⟩, _, rfl⟩
      | false =>
        rw [hg1, Bool.false_or] at hbig
        clear hf
        go_enter Try.func35, Try.ntmps35
        go_wp2_with fail
        (with_reducible apply upon_float_bin); exact rfl; exact h; exact h; intro r nr hr; (try rw [World.drewN_drewN]); simp only [Act.put, List.setIfInBounds_toArray, List.set_cons_zero, List.set_cons_succ]
        have o1 : (FloatKind.f64.format.order r 0 == some .eq) = true := by rw [order_fv hr (fvc rfl : Fv .f64 0 (some 0))]; exact q1
        have o1' : (FloatKind.f64.format.order r 0 != some .eq) = false := by rw [bne, o1]; rfl
        go_wp2_with fail
        go_ret
        exact ⟨⟨_, rfl, (fvc rfl : Fv .f64 0 (some 0))⟩, _, rfl⟩
    | false =>
      have e : wideSineC (some x) = sineC (placesC (some x)) := by unfold wideSineC; rw [q1, q2]
      rw [e]; clear e
      exact c_spec_sine h q1 q2 w

def sineT (c : Option Nat) : Option Nat := fconv .f64 .f32 (wideSineC (fconv .f32 .f64 c))

theorem c_impl_SineTurns {x : Nat} {c : Option Nat} (h : Fv .f32 x c) (w : World) : Calls Try.prog 9 #[.float .f32 x] w (RetF .f32 (sineT c) w) := by
  have hfit := fits_sine (fconv .f32 .f64 c)
  go_enter Try.func9, Try.ntmps9
  go_wp2_with fail
  (with_reducible apply upon_float_conv); exact f32some; exact Try.underlying25; exact h; exact fits_widen h; intro r5 n5 hr5; (try rw [World.drewN_drewN]); simp only [Act.put, List.setIfInBounds_toArray, List.set_cons_zero, List.set_cons_succ]
  go_wp2_with fail
  refine (c_impl_wideSine hr5 _).mono ?_; rintro e w' ⟨⟨r7, rfl, hr7⟩, m, rfl⟩
  go_wp2_with fail
  (with_reducible apply upon_float_conv); exact f64some; exact Try.underlying22; exact hr7; exact hfit; intro r8 n8 hr8; (try rw [World.drewN_drewN]); simp only [Act.put, List.setIfInBounds_toArray, List.set_cons_zero, List.set_cons_succ]
  go_wp2_with fail
  go_ret
  exact ⟨⟨_, rfl, hr8⟩, by (repeat (first | exact Below.refl _ _ | (refine below_drewN ?_ _) | (refine Below.drew ?_) | (refine Below.setCell ?_ (by first | omega | (simp; try omega)) _) | (refine Below.alloc ?_ (by first | omega | (simp; try omega)) _) | (refine Below.trans ?_ (Below.mono (by assumption) (by first | omega | (simp; try omega))))))⟩

theorem c_spec_l01Sine {x : Nat} {c : Option Nat} (h : Fv .f32 x c) (w : World) : Calls Try.prog 21 #[.float .f32 x] w (RetF .f32 (sineT c) w) := by
  have hfit := fits_sine (fconv .f32 .f64 c)
  go_enter Try.func21, Try.ntmps21
  go_wp2_with fail
  (with_reducible apply upon_float_conv); exact f32some; exact Try.underlying25; exact h; exact fits_widen h; intro r5 n5 hr5; (try rw [World.drewN_drewN]); simp only [Act.put, List.setIfInBounds_toArray, List.set_cons_zero, List.set_cons_succ]
  go_wp2_with fail
  refine (c_spec_l01SineWide hr5 _).mono ?_; rintro e w' ⟨⟨r7, rfl, hr7⟩, m, rfl⟩
  go_wp2_with fail
  refine (c_spec_l01Narrow hr7 hfit _).mono ?_; rintro e w' ⟨⟨r8, rfl, hr8⟩, m2, rfl⟩
  go_wp2_with fail
  go_ret
  exact ⟨⟨_, rfl, hr8⟩, by (repeat (first | exact Below.refl _ _ | (refine below_drewN ?_ _) | (refine Below.drew ?_) | (refine Below.setCell ?_ (by first | omega | (simp; try omega)) _) | (refine Below.alloc ?_ (by first | omega | (simp; try omega)) _) | (refine Below.trans ?_ (Below.mono (by assumption) (by first | omega | (simp; try omega))))))⟩

theorem c_spec_SineTurns {x : Nat} {c : Option Nat} (h : Fv .f32 x c) (w : World) : Calls Try.prog 8 #[.float .f32 x] w (RetF .f32 (sineT c) w) := by
  go_enter Try.func8, Try.ntmps8
  go_wp2_with (go_at_call 21; refine (c_spec_l01Sine h _).mono ?_; rintro e w' ⟨⟨r2, rfl, h1⟩, hb⟩; obtain ⟨hc, hf⟩ := bcell hb; have hs := hb.size; (try simp at hs))
  go_ret
  exact ⟨⟨_, rfl, h1⟩, by (repeat (first | exact Below.refl _ _ | (refine below_drewN ?_ _) | (refine Below.drew ?_) | (refine Below.setCell ?_ (by first | omega | (simp; try omega)) _) | (refine Below.alloc ?_ (by first | omega | (simp; try omega)) _) | (refine Below.trans ?_ (Below.mono (by assumption) (by first | omega | (simp; try omega))))))⟩

end Go.Proofs.Ytpfijbgkhekjfab
