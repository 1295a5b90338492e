/-
  Further walks of the statements on numbers. No condition but that the words fit their kinds.
-/
import Derived.Test.YtiacekmicahmbaaWb
set_option linter.unusedVariables false
namespace Go.Proofs.Ytiacekmicahmbaa
open Go.RowKit Go.Proofs.Ytiacekmicahmbaa.Fl

/-! ### from bits -/
theorem ret_f {k : FloatKind} {a b : Nat} (h : a = b) : Ending.returned (.float k a) = .returned (.float k b) := by rw [h]

theorem l01From_any (n : Int) (w : World) :
    Calls Try.prog 46 #[.int .i64 n] w fun e w' => e = .returned (.float .f32 (n % 4294967296).toNat) ∧ ∃ m, w' = w.drewN m := by
  have hx := f32from
  go_enter Try.func46, Try.ntmps46
  go_wp2
  go_ret
  exact ⟨rfl, 0, rfl⟩

theorem l00In_any (n a b : Int) (w : World) :
    Calls Try.prog 45 #[.int .i64 n, .int .i64 a, .int .i64 b] w fun e w' => e = .returned (.bool (decide (a ≤ n) && decide (n ≤ b))) ∧ ∃ m, w' = w.drewN m := by
  by_cases h : a ≤ n
  · have h' : decide (a ≤ n) = true := by simpa using h
    go_enter Try.func45, Try.ntmps45
    go_wp2
    go_ret
    exact ⟨ret_bool (by rw [h']; rfl), 0, rfl⟩
  · have h' : decide (a ≤ n) = false := by simpa using h
    go_enter Try.func45, Try.ntmps45
    go_wp2
    go_ret
    exact ⟨ret_bool (by simp), 0, rfl⟩

theorem fromBits_spec_no (n : Int) (h : (decide (0 ≤ n) && decide (n ≤ 4294967295)) = false) (w : World) :
    Calls Try.prog 28 #[.int .i64 n] w fun e w' => e = .returned (.tuple #[.float .f32 0, .bool false]) ∧ ∃ m, w' = w.drewN m := by
  go_enter Try.func28, Try.ntmps28
  go_wp2_with (go_at_call 45; refine (l00In_any _ _ _ _).mono ?_; rintro e w' ⟨rfl, m, rfl⟩)
  go_ret2
  exact ⟨rfl, _, rfl⟩

theorem fromBits_spec_yes (n : Int) (h : (decide (0 ≤ n) && decide (n ≤ 4294967295)) = true) (w : World) :
    Calls Try.prog 28 #[.int .i64 n] w fun e w' => e = .returned (.tuple #[.float .f32 (n % 4294967296).toNat, .bool true]) ∧ ∃ m, w' = w.drewN m := by
  go_enter Try.func28, Try.ntmps28
  go_wp2_with (first | (go_at_call 45; refine (l00In_any _ _ _ _).mono ?_; rintro e w' ⟨rfl, m, rfl⟩) | (go_at_call 46; refine (l01From_any _ _).mono ?_; rintro e w' ⟨rfl, m, rfl⟩))
  go_ret2
  exact ⟨rfl, _, rfl⟩

theorem fromBits_impl_no (n : Int) (h : n < 0 ∨ 4294967295 < n) (w : World) :
    Calls Try.prog 29 #[.int .i64 n] w fun e w' => e = .returned (.tuple #[.float .f32 0, .bool false]) ∧ ∃ m, w' = w.drewN m := by
  by_cases h0 : n < 0
  · have h1 : decide (n < 0) = true := by simpa using h0
    go_enter Try.func29, Try.ntmps29
    go_wp2
    go_ret2
    exact ⟨rfl, 0, rfl⟩
  · have h1 : decide (n < 0) = false := by simpa using h0
    have h2 : decide (4294967295 < n) = true := by simp; omega
    go_enter Try.func29, Try.ntmps29
    go_wp2
    go_ret2
    exact ⟨rfl, 0, rfl⟩

theorem fromBits_impl_yes (n : Int) (ha : 0 ≤ n) (hb : n ≤ 4294967295) (w : World) :
    Calls Try.prog 29 #[.int .i64 n] w fun e w' => e = .returned (.tuple #[.float .f32 (n % 4294967296).toNat, .bool true]) ∧ ∃ m, w' = w.drewN m := by
  have hx := f32from
  have h1 : decide (n < 0) = false := by simpa using ha
  have h2 : decide (4294967295 < n) = false := by simpa using hb
  clear ha hb
  go_enter Try.func29, Try.ntmps29
  go_wp2
  go_ret2
  exact ⟨rfl, 0, rfl⟩

theorem word_of_int (n : Int) : (n % 4294967296).toNat < 2 ^ FloatKind.f32.format.width := by
  have e : (2 : Nat) ^ FloatKind.f32.format.width = 4294967296 := rfl
  omega

theorem walk_FromBits (a0 : Int) (_ : (Lit.int .i64 a0).wf = true) (w : World) :
    Calls Try.prog 10 #[.int .i64 a0] w fun e w' => e = .returned (.bool true) ∧ Below w.heap.size w w' := by
  by_cases hin : 0 ≤ a0 ∧ a0 ≤ 4294967295
  · have hb : (decide (0 ≤ a0) && decide (a0 ≤ 4294967295)) = true := by simp [hin.1, hin.2]
    have hv := Fv.self (k := .f32) (word_of_int a0)
    have Hi := Lib.hid hin
    have Hb := Lib.hid hb
    clear hin hb
    go_enter Try.func10, Try.ntmps10
    go_wp2_with (first
      | ((with_reducible apply upon_float_conv); exact f32some; exact Try.underlying25; assumption; exact fits_widen (by assumption); intro r n hr; (try rw [World.drewN_drewN]); simp only [Act.put, List.setIfInBounds_toArray, List.set_cons_zero, List.set_cons_succ])
      | (go_at_call 28; refine (fromBits_spec_yes _ Hb.out _).mono ?_; rintro e w' ⟨rfl, m, rfl⟩)
      | (go_at_call 29; refine (fromBits_impl_yes _ Hi.out.1 Hi.out.2 _).mono ?_; rintro e w' ⟨rfl, m, rfl⟩)
      | (go_at_call 19; refine (sameFloat_any _ _ _ (by assumption) (by assumption) _).mono ?_; rintro e w' ⟨rfl, m, rfl⟩))
    go_ret
    exact ⟨rfl, bel_drewN _ _⟩
  · have hb : (decide (0 ≤ a0) && decide (a0 ≤ 4294967295)) = false := by simp; omega
    have hc : a0 < 0 ∨ 4294967295 < a0 := by omega
    have hv : Fv .f32 0 (some 0) := fvc rfl
    have Hi := Lib.hid hc
    have Hb := Lib.hid hb
    clear hin hb hc
    go_enter Try.func10, Try.ntmps10
    go_wp2_with (first
      | ((with_reducible apply upon_float_conv); exact f32some; exact Try.underlying25; assumption; exact fits_widen (by assumption); intro r n hr; (try rw [World.drewN_drewN]); simp only [Act.put, List.setIfInBounds_toArray, List.set_cons_zero, List.set_cons_succ])
      | (go_at_call 28; refine (fromBits_spec_no _ Hb.out _).mono ?_; rintro e w' ⟨rfl, m, rfl⟩)
      | (go_at_call 29; refine (fromBits_impl_no _ Hi.out _).mono ?_; rintro e w' ⟨rfl, m, rfl⟩)
      | (go_at_call 19; refine (sameFloat_any _ _ _ (by assumption) (by assumption) _).mono ?_; rintro e w' ⟨rfl, m, rfl⟩))
    go_ret
    exact ⟨rfl, bel_drewN _ _⟩

/-! ### subnormal numbers -/
/-- A number's absolute value in 64 bits. -/
theorem abs_any (x : Nat) (c : Option Nat) (h : Fv .f64 x c) (w : World) :
    Calls Try.prog 42 #[.float .f64 x] w fun e w' => (∃ r, e = .returned (.float .f64 r) ∧ Fv .f64 r (fabs .f64 c)) ∧ ∃ n, w' = w.drewN n := by
  have hx := f64bits
  have hy := f64from
  go_enter Try.func42, Try.ntmps42
  go_wp2
  go_ret
  refine ⟨⟨_, rfl, ?_⟩, 0, rfl⟩
  rw [andNot_top64 x h.lt]
  exact h.abs

/-- Whether a class is that of a subnormal number other than zero. -/
def subB : Option Nat → Bool
  | none => false
  | some b => decide (0 < rung Ieee.single b) && decide (rung Ieee.single b < 2 ^ 23)

theorem subB_zero {x : Nat} (h : rung Ieee.single x = 0) : subB (some x) = false := by
  show (decide (0 < rung Ieee.single x) && decide (rung Ieee.single x < 2 ^ 23)) = false
  rw [h]; rfl

theorem subB_pos {x : Nat} (h : rung Ieee.single x ≠ 0) : subB (some x) = decide ((rung Ieee.single x : Int) < 8388608) := by
  show (decide (0 < rung Ieee.single x) && decide (rung Ieee.single x < 2 ^ 23)) = _
  have : 0 < rung Ieee.single x := by omega
  rw [Bool.eq_iff_iff]
  simp only [this, decide_true, Bool.true_and, decide_eq_true_eq]
  omega

theorem cmp_lt (a b : Int) : (some (compare a b) == some Ordering.lt) = decide (a < b) := by
  by_cases h : a < b
  · rw [compare_lt h]; simp [h]
  · by_cases h2 : a = b
    · rw [compare_eq h2]; simp [h]
    · rw [compare_gt (by omega)]; simp [h]

theorem cmp_gt (a b : Int) : (some (compare a b) == some Ordering.gt) = decide (b < a) := by
  by_cases h : b < a
  · rw [compare_gt h]; simp [h]
  · by_cases h2 : a = b
    · rw [compare_eq h2]; simp [h]
    · rw [compare_lt (by omega)]; simp [h]

theorem ord_zero {x : Nat} (h : Fv .f32 x (some x)) : FloatKind.f32.format.order x 0 = some (compare (srung Ieee.single x) 0) := by
  rw [order_fv h (fvc (b := 0) rfl)]; rfl

theorem ord_zero_eq {x : Nat} (h : Fv .f32 x (some x)) (hr : rung Ieee.single x = 0) : FloatKind.f32.format.order x 0 = some .eq := by
  rw [ord_zero h, compare_eq]
  unfold srung pm; rw [hr]; split <;> rfl

theorem ord_zero_gt {x : Nat} (h : Fv .f32 x (some x)) (hr : rung Ieee.single x ≠ 0) (hs : sgn Ieee.single x = false) : FloatKind.f32.format.order x 0 = some .gt := by
  rw [ord_zero h, compare_gt]
  unfold srung pm; rw [hs]; simp; omega

theorem ord_zero_lt {x : Nat} (h : Fv .f32 x (some x)) (hr : rung Ieee.single x ≠ 0) (hs : sgn Ieee.single x = true) : FloatKind.f32.format.order x 0 = some .lt := by
  rw [ord_zero h, compare_lt]
  unfold srung pm; rw [hs]; simp; omega

/-- 'x != 0' for what is no zero: a NaN too. -/
theorem ord_zero_ne {x : Nat} {c : Option Nat} (h : Fv .f32 x c) (hr : ∀ b, c = some b → rung Ieee.single b ≠ 0) : (FloatKind.f32.format.order x 0 != some .eq) = true := by
  cases c with
  | none => rw [order_fv h (fvc (b := 0) rfl)]; rfl
  | some b =>
    obtain rfl := (cls_some.1 h.is).2
    have := hr x rfl
    cases hs : sgn Ieee.single x
    · rw [ord_zero_gt h this hs]; rfl
    · rw [ord_zero_lt h this hs]; rfl

theorem sub_test {x : Nat} {c : Option Nat} (h : Fv .f32 x c) (hr : ∀ b, c = some b → rung Ieee.single b ≠ 0) :
    (ford .f64 (fabs .f64 (fconv .f32 .f64 c)) (some 4039728865751334912) == some .lt) = subB c := by
  have k : Fv .f32 8388608 (some 8388608) := fvc rfl
  have e : fconv .f32 .f64 (some 8388608) = some 4039728865751334912 := by decide +kernel
  rw [fabs_widen h, ← e, ford_widen h.abs k]
  cases c with
  | none => rfl
  | some b =>
    have h0 := hr b rfl
    have e1 : srung Ieee.single (rung Ieee.single b) = (rung Ieee.single b : Int) := by
      unfold srung pm; rw [sgn_rung, rung_rung]; rfl
    have e2 : srung Ieee.single 8388608 = 8388608 := by decide +kernel
    have e3 : ford .f32 (fabs .f32 (some b)) (some 8388608) = some (compare (srung Ieee.single (rung Ieee.single b)) (srung Ieee.single 8388608)) := rfl
    rw [e3, e1, e2, cmp_lt, subB_pos h0]

theorem isSubnormal_impl (x : Nat) (c : Option Nat) (h : Fv .f32 x c) (w : World) :
    Calls Try.prog 23 #[.float .f32 x] w fun e w' => e = .returned (.bool (subB c)) ∧ ∃ n, w' = w.drewN n := by
  by_cases hz : ∃ b, c = some b ∧ rung Ieee.single b = 0
  · obtain ⟨b, rfl, hb⟩ := hz
    obtain rfl := (cls_some.1 h.is).2
    have h1 := ord_zero_eq h hb
    have hf : false = subB (some x) := (subB_zero hb).symm
    have Hf := Lib.hid hf
    clear hf hb
    go_enter Try.func23, Try.ntmps23
    go_wp2
    go_ret
    exact ⟨ret_bool Hf.out, 0, rfl⟩
  · have hr : ∀ b, c = some b → rung Ieee.single b ≠ 0 := fun b hb h0 => hz ⟨b, hb, h0⟩
    have h1 := ord_zero_ne h hr
    have Hf := Lib.hid (sub_test h hr)
    clear hr hz
    go_enter Try.func23, Try.ntmps23
    go_wp2_with (first | ((with_reducible apply upon_float_conv); exact f32some; exact Try.underlying25; assumption; exact fits_widen (by assumption); intro r n hr; (try rw [World.drewN_drewN]); simp only [Act.put, List.setIfInBounds_toArray, List.set_cons_zero, List.set_cons_succ]) | (go_at_call 42; refine (abs_any _ _ hr _).mono ?_; rintro e w' ⟨⟨r2, rfl, hr2⟩, m, rfl⟩))
    go_ret
    exact ⟨ret_bool (by rw [order_fv hr2 (fvc (b := 4039728865751334912) rfl)]; exact Hf.out), _, rfl⟩

theorem exp_zero_nan : (bits .and .i64 (bitsC none) 2139095040 == 0) = false := by decide +kernel

/-- Whether the bits of the exponent are all 0. -/
theorem exp_zero {x : Nat} {c : Option Nat} (h : Fv .f32 x c) : (bits .and .i64 (bitsC c) 2139095040 == 0) = match c with | none => false | some b => decide (rung Ieee.single b < 2 ^ 23) := by
  cases c with
  | none => exact exp_zero_nan
  | some b =>
    obtain rfl := (cls_some.1 h.is).2
    have hl : x < 2 ^ 32 := h.lt
    show (bits .and .i64 (x : Int) 2139095040 == 0) = decide (rung Ieee.single x < 2 ^ 23)
    rw [and_exp x hl]
    have er : rung Ieee.single x = x % 2 ^ 31 := rfl
    rw [er, Bool.eq_iff_iff, beq_iff_eq, decide_eq_true_iff]
    omega

theorem isSubnormal_spec (x : Nat) (c : Option Nat) (h : Fv .f32 x c) (w : World) :
    Calls Try.prog 22 #[.float .f32 x] w fun e w' => e = .returned (.bool (subB c)) ∧ ∃ n, w' = w.drewN n := by
  by_cases hz : ∃ b, c = some b ∧ rung Ieee.single b = 0
  · obtain ⟨b, rfl, hb⟩ := hz
    obtain rfl := (cls_some.1 h.is).2
    have h1 := ord_zero_eq h hb
    have hf : false = subB (some x) := (subB_zero hb).symm
    have Hf := Lib.hid hf
    clear hf hb
    go_enter Try.func22, Try.ntmps22
    go_wp2
    go_ret
    exact ⟨ret_bool Hf.out, 0, rfl⟩
  · have hr : ∀ b, c = some b → rung Ieee.single b ≠ 0 := fun b hb h0 => hz ⟨b, hb, h0⟩
    have h1 := ord_zero_ne h hr
    have hf : (bits .and .i64 (bitsC c) 2139095040 == 0) = subB c := by
      rw [exp_zero h]
      cases c with
      | none => rfl
      | some b =>
        rw [subB_pos (hr b rfl), Bool.eq_iff_iff]
        simp only [decide_eq_true_eq]
        omega
    have Hf := Lib.hid hf
    clear hr hz hf
    go_enter Try.func22, Try.ntmps22
    go_wp2_with (go_at_call 40; refine (l01Bits_spec _ _ h _).mono ?_; rintro e w' ⟨rfl, n, rfl⟩)
    go_ret
    exact ⟨ret_bool Hf.out, _, rfl⟩

theorem walk_IsSubnormal (a0 : Nat) (h0 : a0 < 2 ^ FloatKind.f32.format.width) (w : World) :
    Calls Try.prog 7 #[.float .f32 a0] w fun e w' => e = .returned (.bool true) ∧ Below w.heap.size w w' := by
  have h := Fv.self h0
  go_enter Try.func7, Try.ntmps7
  go_wp2_with (first | (go_at_call 22; refine (isSubnormal_spec _ _ h _).mono ?_; rintro e w' ⟨rfl, n, rfl⟩) | (go_at_call 23; refine (isSubnormal_impl _ _ h _).mono ?_; rintro e w' ⟨rfl, n, rfl⟩))
  go_ret
  exact ⟨rfl, bel_drewN _ _⟩

end Go.Proofs.Ytiacekmicahmbaa
