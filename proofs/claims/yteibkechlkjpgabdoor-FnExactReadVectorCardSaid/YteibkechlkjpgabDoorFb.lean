/-
  Bits of words (masks, the sign), the absolute value, and that widening keeps the order. No program in sight; no condition.
-/
import Derived.Test.YteibkechlkjpgabDoorFc
import Derived.WalkKit
import Derived.Laws.Bits64b
set_option linter.unusedVariables false
namespace Go.Proofs.YteibkechlkjpgabDoor.Fl
open Ieee

theorem shl_bit (x p i : Nat) : (x * 2 ^ p).testBit i = (decide (p ≤ i) && x.testBit (i - p)) := by
  rw [← Nat.shiftLeft_eq, Nat.testBit_shiftLeft]

/-- A field of 'q' bits from bit 'p' on. -/
theorem and_field (b p q : Nat) : b &&& (2 ^ q - 1) * 2 ^ p = b / 2 ^ p % 2 ^ q * 2 ^ p := by
  apply Nat.eq_of_testBit_eq
  intro i
  rw [Nat.testBit_and, shl_bit, shl_bit, Nat.testBit_mod_two_pow, Nat.testBit_div_two_pow, Nat.testBit_two_pow_sub_one]
  by_cases h : p ≤ i
  · simp [h, Bool.and_comm]
  · simp [h]

theorem wraps_i64 (n : Int) (h0 : 0 ≤ n) (h1 : n < 2 ^ 63) : IntKind.i64.wrap n = n := by
  rw [IntKind.wrap_i64]; omega

theorem and_i64 (a b : Nat) (ha : a < 2 ^ 63) (hb : b < 2 ^ 63) : bits .and .i64 (a : Int) (b : Int) = ((a &&& b : Nat) : Int) :=
  (bits_nat .i64 63 (by decide) wraps_i64 a b ha hb).1

theorem and_exp (x : Nat) (h : x < 2 ^ 32) : bits .and .i64 (x : Int) 2139095040 = ((x / 2 ^ 23 % 2 ^ 8 * 2 ^ 23 : Nat) : Int) := by
  have := and_i64 x ((2 ^ 8 - 1) * 2 ^ 23) (by omega) (by omega)
  rw [and_field] at this
  exact this

theorem and_top (x : Nat) (h : x < 2 ^ 32) : bits .and .i64 (x : Int) 2147483648 = ((x / 2 ^ 31 % 2 ^ 1 * 2 ^ 31 : Nat) : Int) := by
  have := and_i64 x ((2 ^ 1 - 1) * 2 ^ 31) (by omega) (by omega)
  rw [and_field] at this
  exact this

theorem and_top64 (x : Nat) (h : x < 2 ^ 64) : bits .and .u64 (x : Int) 9223372036854775808 = ((x / 2 ^ 63 % 2 ^ 1 * 2 ^ 63 : Nat) : Int) := by
  have := bits_and_u64_nat x ((2 ^ 1 - 1) * 2 ^ 63) (by omega) (by omega)
  rw [and_field] at this
  exact this

theorem not_field {n x p : Nat} (hp : p < n) (h : x < 2 ^ (p + 1)) : ((BitVec.ofNat n x) &&& ~~~(BitVec.ofNat n (2 ^ p))).toNat = x % 2 ^ p := by
  apply Nat.eq_of_testBit_eq
  intro i
  rw [BitVec.testBit_toNat, BitVec.getLsbD_and, BitVec.getLsbD_not, BitVec.getLsbD_ofNat, BitVec.getLsbD_ofNat, Nat.testBit_mod_two_pow, Nat.testBit_two_pow]
  by_cases h1 : i < p
  · have : ¬ p = i := by omega
    have h2 : i < n := by omega
    simp [h1, h2, this]
  · by_cases h2 : i = p
    · subst h2; simp [hp]
    · have : x.testBit i = false := Nat.testBit_lt_two_pow (Nat.lt_of_lt_of_le h (Nat.pow_le_pow_right (by omega) (by omega)))
      simp [this]

theorem andNot_i64 (x p : Nat) (hp : p < 62) (h : x < 2 ^ (p + 1)) : bits .andNot .i64 (x : Int) ((2 ^ p : Nat) : Int) = ((x % 2 ^ p : Nat) : Int) := by
  have e := not_field (n := 64) (x := x) (p := p) (by omega) h
  have hl : x % 2 ^ p < 2 ^ 63 := Nat.lt_of_lt_of_le (Nat.mod_lt _ (Nat.two_pow_pos p)) (Nat.pow_le_pow_right (by omega) (by omega))
  show IntKind.i64.wrap ((BitVec.ofInt 64 (x : Int) &&& ~~~ BitVec.ofInt 64 ((2 ^ p : Nat) : Int)).toNat : Int) = _
  rw [BitVec.ofInt_natCast, BitVec.ofInt_natCast, e]
  exact wraps_i64 _ (Int.natCast_nonneg _) (by omega)

theorem andNot_top (x : Nat) (h : x < 2 ^ 32) : bits .andNot .i64 (x : Int) 2147483648 = ((x % 2 ^ 31 : Nat) : Int) := by
  have := andNot_i64 x 31 (by omega) h
  exact this

theorem andNot_u64 (x p : Nat) (hp : p < 64) (h : x < 2 ^ (p + 1)) : bits .andNot .u64 (x : Int) ((2 ^ p : Nat) : Int) = ((x % 2 ^ p : Nat) : Int) := by
  have e := not_field (n := 64) (x := x) (p := p) (by omega) h
  have hl : x % 2 ^ p < 2 ^ 64 := Nat.lt_of_lt_of_le (Nat.mod_lt _ (Nat.two_pow_pos p)) (Nat.pow_le_pow_right (by omega) (by omega))
  show IntKind.u64.wrap ((BitVec.ofInt 64 (x : Int) &&& ~~~ BitVec.ofInt 64 ((2 ^ p : Nat) : Int)).toNat : Int) = _
  rw [BitVec.ofInt_natCast, BitVec.ofInt_natCast, e, IntKind.wrap_u64]
  omega

theorem andNot_top64 (x : Nat) (h : x < 2 ^ 64) : bits .andNot .u64 (x : Int) 9223372036854775808 = ((x % 2 ^ 63 : Nat) : Int) := by
  have := andNot_u64 x 63 (by omega) h
  exact this

/-! ### the absolute value -/
def fabs (k : FloatKind) (c : Option Nat) : Option Nat := c.map (rung k.format)

theorem rung_rung (f : Format) (b : Nat) : rung f (rung f b) = rung f b := Nat.mod_mod ..

theorem rung_word_lt (f : Format) (b : Nat) : rung f b < 2 ^ f.width := by
  have := rung_lt f b
  have two : 2 ^ f.width = 2 * f.signWeight := by
    unfold Format.width Format.signWeight
    rw [Nat.add_assoc, Nat.add_comm 1, Nat.pow_succ, Nat.mul_comm]
  omega

theorem Fv.abs {k : FloatKind} {b : Nat} {c : Option Nat} (h : Fv k b c) : Fv k (rung k.format b) (fabs k c) := by
  refine ⟨rung_word_lt _ _, ?_⟩
  rw [← h.is]
  unfold cls fabs
  rw [rung_rung]
  split <;> rfl

theorem sgn_rung (f : Format) (b : Nat) : sgn f (rung f b) = false := by
  unfold sgn; rw [Nat.div_eq_of_lt (rung_lt f b)]; rfl

/-! ### widening -/
theorem pow_lt_iff (a b c : Nat) : a * 2 ^ c < b * 2 ^ c ↔ a < b := Nat.mul_lt_mul_right (Nat.two_pow_pos c)

theorem lt_scaled_iff {a b x y c : Nat} (hx : x = a * 2 ^ c) (hy : y = b * 2 ^ c) : x < y ↔ a < b := by
  rw [hx, hy]; exact pow_lt_iff a b c

theorem pow_zero_of {a c : Nat} (h : a * 2 ^ c = 0) : a = 0 := by
  rcases Nat.mul_eq_zero.1 h with h | h
  · exact h
  · exact absurd h (Nat.ne_of_gt (Nat.two_pow_pos c))

/-- The word that a float32 becomes. -/
theorem widen_some {b : Nat} (hb : Fv .f32 b (some b)) : ∃ r, fconv .f32 .f64 (some b) = some r ∧ Fv .f64 r (some r) ∧ sgn double r = sgn single b ∧
    (rung single b = single.infRung → rung double r = double.infRung) ∧
    (rung single b < single.infRung → rung double r < double.infRung ∧ sv double (rung double r) = sv single (rung single b) * 2 ^ 925) := by
  obtain ⟨r, h1, h2, h3, h4, h5, h6⟩ := widen_bits hb.lt (cls_some.1 hb.is).1
  exact ⟨r, h1, ⟨h2, cls_of h4⟩, h3, h5, h6⟩

/-- Widening keeps the order of rungs. -/
theorem widen_rung {a b r s : Nat} (ha : Fv .f32 a (some a)) (hb : Fv .f32 b (some b)) (hr : fconv .f32 .f64 (some a) = some r) (hs : fconv .f32 .f64 (some b) = some s) :
    (rung double r < rung double s ↔ rung single a < rung single b) := by
  obtain ⟨r', h1, h2, _, h4, h5⟩ := widen_some ha
  obtain ⟨s', k1, k2, _, k4, k5⟩ := widen_some hb
  obtain rfl : r' = r := Option.some.inj (h1.symm.trans hr)
  obtain rfl : s' = s := Option.some.inj (k1.symm.trans hs)
  have ia := (cls_some.1 ha.is).1
  have ib := (cls_some.1 hb.is).1
  have ea : FloatKind.f32.format = single := rfl
  rw [ea] at ia ib
  by_cases c1 : rung single a = single.infRung
  · have := h4 c1
    by_cases c2 : rung single b = single.infRung
    · have := k4 c2; omega
    · have := (k5 (by omega)).1; omega
  · have h6 := h5 (by omega)
    by_cases c2 : rung single b = single.infRung
    · have := k4 c2; omega
    · have k6 := k5 (by omega)
      exact (sv_lt_iff double _ _).symm.trans ((lt_scaled_iff h6.2 k6.2).trans (sv_lt_iff single _ _))

theorem ford_widen {a b : Nat} {x y : Option Nat} (ha : Fv .f32 a x) (hb : Fv .f32 b y) : ford .f64 (fconv .f32 .f64 x) (fconv .f32 .f64 y) = ford .f32 x y := by
  cases x with
  | none => rfl
  | some a' =>
    obtain rfl := (cls_some.1 ha.is).2
    cases y with
    | none =>
      cases fconv .f32 .f64 (some a) <;> rfl
    | some b' =>
      obtain rfl := (cls_some.1 hb.is).2
      obtain ⟨r, h1, h2, h3, _, _⟩ := widen_some ha
      obtain ⟨s, k1, k2, k3, _, _⟩ := widen_some hb
      have w1 := widen_rung ha hb h1 k1
      have w2 := widen_rung hb ha k1 h1
      have z : Fv .f32 0 (some 0) := fvc rfl
      have z1 : fconv .f32 .f64 (some 0) = some 0 := rfl
      have w3 := widen_rung z ha z1 h1
      have w4 := widen_rung z hb z1 k1
      have e0 : rung double 0 = 0 := rfl
      have e1 : rung single 0 = 0 := rfl
      rw [e0, e1] at w3 w4
      rw [h1, k1]
      show some (compare (srung double r) (srung double s)) = some (compare (srung single a) (srung single b))
      congr 1
      unfold srung pm
      rw [h3, k3]
      cases sgn single a <;> cases sgn single b <;> simp only [Bool.false_eq_true, if_true, if_false] <;> refine compare_of _ _ _ _ ?_ ?_ <;> omega

theorem fabs_widen {a : Nat} {x : Option Nat} (ha : Fv .f32 a x) : fabs .f64 (fconv .f32 .f64 x) = fconv .f32 .f64 (fabs .f32 x) := by
  cases x with
  | none => rfl
  | some a' =>
    obtain rfl := (cls_some.1 ha.is).2
    have hb : Fv .f32 (rung single a) (some (rung single a)) := ha.abs
    obtain ⟨r, h1, h2, h3, _, _⟩ := widen_some ha
    obtain ⟨s, k1, k2, k3, _, _⟩ := widen_some hb
    have w1 := widen_rung ha hb h1 k1
    have w2 := widen_rung hb ha k1 h1
    rw [rung_rung] at w1 w2
    have er : rung double r = rung double s := by omega
    rw [sgn_rung] at k3
    rw [h1]
    show some (rung double r) = fconv .f32 .f64 (some (rung single a))
    rw [k1, er]
    congr 1
    have := word_eq double k2.lt
    rw [k3] at this
    exact this

/-- A float32 that is widened and narrowed is itself. -/
theorem narrow_widen {a : Nat} {x : Option Nat} (ha : Fv .f32 a x) : Fits .f64 .f32 (fconv .f32 .f64 x) ∧ fconv .f64 .f32 (fconv .f32 .f64 x) = x := by
  cases x with
  | none => exact ⟨fits_none _ _, rfl⟩
  | some a' =>
    obtain rfl := (cls_some.1 ha.is).2
    obtain ⟨r, h1, h2, h3, h4, h5⟩ := widen_some ha
    have ia := (cls_some.1 ha.is).1
    have ea : FloatKind.f32.format = single := rfl
    rw [ea] at ia
    have hw := word_eq single ha.lt
    have hgoal : floatToFloatBits .f64 r .f32 = some a := by
      unfold floatToFloatBits
      rw [if_neg (by decide)]
      by_cases c : rung single a = single.infRung
      · have e : FloatKind.f64.decode r = .infinity (sgn double r) := read_inf double (bb .f64) (h4 c)
        rw [e]
        show some (single.word (sgn double r) single.infRung) = some a
        rw [h3, ← c, hw]
      · obtain ⟨hlt, hv⟩ := h5 (by omega)
        obtain ⟨m, p, hn⟩ := read_num double hlt
        have e : FloatKind.f64.decode r = .number (sgn double r) m (double.leastPlace + (p : Int)) := hn.read
        rw [e]
        simp only
        have hnear : near single (sgn double r) m (double.leastPlace + (p : Int)) = rung single a := by
          by_cases hm : m = 0
          · have h0 := hn.val
            rw [hm, Nat.zero_mul, hv] at h0
            have : sv single (rung single a) = 0 := pow_zero_of h0.symm
            rw [← sv_zero single] at this
            unfold near
            rw [if_pos hm]
            exact (sv_inj single this).symm
          · refine near_exact single _ m _ _ ia hm ?_
            have l1 : single.leastPlace = -149 := by decide
            have l2 : double.leastPlace = -1074 := by decide
            rw [l1, l2]
            have h0 := hn.val
            rw [hv] at h0
            by_cases hp : p ≤ 925
            · rw [show ((-1074 : Int) + (p : Int) - -149).toNat = 0 by omega, show ((-149 : Int) - (-1074 + (p : Int))).toNat = 925 - p by omega, Nat.pow_zero, Nat.mul_one]
              exact pow_cancel_le h0 hp
            · rw [show ((-1074 : Int) + (p : Int) - -149).toNat = p - 925 by omega, show ((-149 : Int) - (-1074 + (p : Int))).toNat = 0 by omega, Nat.pow_zero, Nat.mul_one]
              exact pow_cancel_ge h0 (by omega)
        have hrung : rung single (FloatKind.f32.encode (.number (sgn double r) m (double.leastPlace + (p : Int)))) = rung single a := by
          show rung single (single.nearest _ _ _) = _
          rw [rung_nearest, hnear]
        have hninf : (FloatKind.f32.decode (FloatKind.f32.encode (.number (sgn double r) m (double.leastPlace + (p : Int))))).isInfinity = false := by
          show (single.read _).isInfinity = false
          rw [isInf_iff single (bb .f32), hrung]
          simp [c]
        rw [if_neg (by rw [hninf]; simp)]
        show some (single.nearest _ _ _) = some a
        rw [nearest_word, hnear, h3, hw]
    rw [h1]
    exact ⟨fun b hb => by cases hb; rw [hgoal]; simp, hgoal⟩

end Go.Proofs.YteibkechlkjpgabDoor.Fl
