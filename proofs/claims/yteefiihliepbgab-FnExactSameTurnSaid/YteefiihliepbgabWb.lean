/-
  The walks of the statements on numbers. No condition but that the words fit their kinds.
-/
import Derived.Test.YteefiihliepbgabWa
import Derived.Test.YteefiihliepbgabFb
import Derived.Lib.Hide
set_option linter.unusedVariables false
namespace Go.Proofs.Yteefiihliepbgab
open Go.RowKit Go.Proofs.Yteefiihliepbgab.Fl






/-! ### the same number -/
theorem l01Same_spec (x y : Nat) (c d : Option Nat) (h : Fv .f32 x c) (k : Fv .f32 y d) (w : World) :
    Calls Try.prog 48 #[.float .f32 x, .float .f32 y] w fun e w' => e = .returned (.bool (bitsC c == bitsC d)) ∧ ∃ n, w' = w.drewN n := by
  go_enter Try.func48, Try.ntmps48
  go_wp2_with fail
  refine (l01Bits_spec _ _ h _).mono ?_; rintro e w' ⟨rfl, n, rfl⟩
  go_wp2_with fail
  refine (l01Bits_spec _ _ k _).mono ?_; rintro e w' ⟨rfl, n, rfl⟩
  go_wp2_with fail
  go_ret
  exact ⟨rfl, _, rfl⟩

/-- Whether two classes are one. -/
def sameB (c d : Option Nat) : Bool := decide (c = d)

theorem bitsC_same {x y : Nat} {c d : Option Nat} (h : Fv .f32 x c) (k : Fv .f32 y d) : (bitsC c == bitsC d) = sameB c d := by
  have key : ∀ {z a : Nat}, Fv .f32 z (some a) → a ≠ 2143289344 := by
    intro z a hz e
    subst e
    obtain ⟨h1, rfl⟩ := cls_some.1 hz.is
    revert h1
    decide
  unfold sameB
  rw [Bool.eq_iff_iff, decide_eq_true_iff, beq_iff_eq]
  cases c with
  | none =>
    cases d with
    | none => simp
    | some b => have := key k; simp only [bitsC]; constructor
                · intro e; omega
                · intro e; cases e
  | some a =>
    cases d with
    | none => have := key h; simp only [bitsC]; constructor
              · intro e; omega
              · intro e; cases e
    | some b => simp only [bitsC]; constructor
                · intro e; rw [show a = b by omega]
                · intro e; cases e; rfl

theorem signbit_eq {x : Nat} (h : x < 2 ^ 64) : decide (wrap64 (x : Int) < 0) = sgn Ieee.double x := by
  have e : Ieee.double.signWeight = 2 ^ 63 := rfl
  unfold sgn wrap64
  rw [e]
  by_cases hx : x < 2 ^ 63
  · rw [Nat.div_eq_of_lt hx]
    simp
    omega
  · have : x / 2 ^ 63 = 1 := by omega
    rw [this]
    simp
    omega

theorem signbit_any (x : Nat) (h : x < 2 ^ 64) (w : World) :
    Calls Try.prog 49 #[.float .f64 x] w fun e w' => e = .returned (.bool (sgn Ieee.double x)) ∧ ∃ n, w' = w.drewN n := by
  have hx := f64bits
  go_enter Try.func49, Try.ntmps49
  go_wp2
  go_ret
  exact ⟨ret_bool (signbit_eq h), 0, rfl⟩

theorem widen_sgn {x r : Nat} (h : Fv .f32 x (some x)) (hr : Fv .f64 r (fconv .f32 .f64 (some x))) : sgn Ieee.double r = sgn Ieee.single x := by
  obtain ⟨r', h1, h2, h3, _, _⟩ := widen_some h
  have e := hr.is
  rw [h1] at e
  obtain ⟨_, rfl⟩ := cls_some.1 e
  exact h3

theorem same_of_order {x y : Nat} (h : Fv .f32 x (some x)) (k : Fv .f32 y (some y)) (ho : FloatKind.f32.format.order x y = some .eq) :
    (sgn Ieee.single x == sgn Ieee.single y) = sameB (some x) (some y) := by
  rw [order_fv h k] at ho
  have hc : compare (srung Ieee.single x) (srung Ieee.single y) = .eq := Option.some.inj ho
  have he : srung Ieee.single x = srung Ieee.single y := by
    by_cases a : srung Ieee.single x < srung Ieee.single y
    · rw [compare_lt a] at hc; cases hc
    · by_cases b : srung Ieee.single y < srung Ieee.single x
      · rw [compare_gt b] at hc; cases hc
      · omega
  have wx := word_eq Ieee.single h.lt
  have wy := word_eq Ieee.single k.lt
  unfold sameB
  rw [Bool.eq_iff_iff, decide_eq_true_iff, beq_iff_eq]
  constructor
  · intro e
    unfold srung pm at he
    have hr : rung Ieee.single x = rung Ieee.single y := by
      rw [e] at he
      split at he <;> omega
    rw [← wx, ← wy, e, hr]
  · intro e
    cases e
    rfl

theorem diff_of_order {x y : Nat} (h : Fv .f32 x (some x)) (ho : (FloatKind.f32.format.order x y == some .eq) = false) : false = sameB (some x) (some y) := by
  unfold sameB
  symm
  rw [decide_eq_false_iff_not]
  intro e
  cases e
  rw [ord_some h] at ho
  cases ho

theorem sameNumber_impl (x y : Nat) (c d : Option Nat) (h : Fv .f32 x c) (k : Fv .f32 y d) (w : World) :
    Calls Try.prog 34 #[.float .f32 x, .float .f32 y] w fun e w' => e = .returned (.bool (sameB c d)) ∧ ∃ n, w' = w.drewN n := by
  cases c with
  | none =>
    have h1 := ord_none h
    cases d with
    | none =>
      have k1 := ord_none k
      go_enter Try.func34, Try.ntmps34
      go_wp2
      go_ret
      exact ⟨rfl, 0, rfl⟩
    | some b =>
      have k1 := ord_some k
      go_enter Try.func34, Try.ntmps34
      go_wp2
      go_ret
      exact ⟨rfl, 0, rfl⟩
  | some a =>
    have h1 := ord_some h
    cases d with
    | none =>
      have k1 := ord_none k
      go_enter Try.func34, Try.ntmps34
      go_wp2
      go_ret
      exact ⟨rfl, 0, rfl⟩
    | some b =>
      have k1 := ord_some k
      obtain rfl := (cls_some.1 h.is).2
      obtain rfl := (cls_some.1 k.is).2
      by_cases ho : FloatKind.f32.format.order x y = some .eq
      · have hfin := same_of_order h k ho
        have Hf := Lib.hid hfin
        clear hfin
        go_enter Try.func34, Try.ntmps34
        go_wp2_with (first | ((with_reducible apply upon_float_conv); exact f32some; exact Try.underlying29; assumption; exact fits_widen (by assumption); intro r n hr; (try rw [World.drewN_drewN]); simp only [Act.put, List.setIfInBounds_toArray, List.set_cons_zero, List.set_cons_succ]) | (go_at_call 49; refine (signbit_any _ hr.lt _).mono ?_; rintro e w' ⟨rfl, m, rfl⟩))
        go_ret
        rename_i r0 n0 hr0 n1
        exact ⟨ret_bool (by rw [widen_sgn h hr0, widen_sgn k hr]; exact Hf.out), _, rfl⟩
      · have ho' : (FloatKind.f32.format.order x y == some .eq) = false := by simpa using ho
        have hfin := diff_of_order h ho'
        have Hf := Lib.hid hfin
        clear hfin ho
        go_enter Try.func34, Try.ntmps34
        go_wp2
        go_ret
        exact ⟨ret_bool Hf.out, 0, rfl⟩



end Go.Proofs.Yteefiihliepbgab
