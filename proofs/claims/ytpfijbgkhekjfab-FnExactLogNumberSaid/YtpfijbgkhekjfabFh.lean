/-
  Plain facts on positive float64 words: halved, doubled, compared. No program in sight; no condition.
-/
import Derived.Test.YtpfijbgkhekjfabFt
set_option linter.unusedVariables false
namespace Go.Proofs.Ytpfijbgkhekjfab.Fl
open Ieee

theorem pos_rung {b : Nat} (h : b < 2 ^ 63) : rung double b = b := Nat.mod_eq_of_lt h
theorem pos_sgn {b : Nat} (h : b < 2 ^ 63) : sgn double b = false := by
  unfold sgn
  have e : double.signWeight = 2 ^ 63 := rfl
  rw [e, Nat.div_eq_of_lt h]; rfl
theorem fv_pos {b : Nat} (h : b ≤ 2047 * 2 ^ 52) : Fv .f64 b (some b) := by
  refine ⟨?_, cls_of ?_⟩
  · show b < 2 ^ 64; omega
  · show rung double b ≤ double.infRung
    rw [pos_rung (by omega)]
    have e : double.infRung = 2047 * 2 ^ 52 := by decide
    rw [e]; exact h
theorem srung_pos {b : Nat} (h : b < 2 ^ 63) : srung double b = (b : Int) := by
  unfold srung pm
  rw [pos_sgn h, pos_rung h]; rfl

/-- Two words that are not negative stand to each other as numbers do. -/
theorem ord_pos {a b : Nat} (ha : a ≤ 2047 * 2 ^ 52) (hb : b ≤ 2047 * 2 ^ 52) : FloatKind.f64.format.order a b = some (compare (a : Int) (b : Int)) := by
  rw [order_fv (fv_pos ha) (fv_pos hb), ford_some]
  show some (compare (srung double a) (srung double b)) = _
  rw [srung_pos (by omega), srung_pos (by omega)]
theorem ge_pos {a b : Nat} (ha : a ≤ 2047 * 2 ^ 52) (hb : b ≤ 2047 * 2 ^ 52) : (FloatKind.f64.format.order a b == some .gt || FloatKind.f64.format.order a b == some .eq) = decide (b ≤ a) := by
  rw [ord_pos ha hb, cmp_gt', cmp_eq', Bool.eq_iff_iff]
  simp only [Bool.or_eq_true, decide_eq_true_eq]
  omega
theorem lt_pos {a b : Nat} (ha : a ≤ 2047 * 2 ^ 52) (hb : b ≤ 2047 * 2 ^ 52) : (FloatKind.f64.format.order a b == some .lt) = decide (a < b) := by
  rw [ord_pos ha hb, cmp_lt', Bool.eq_iff_iff]
  simp only [decide_eq_true_eq]
  omega

theorem two_mul_pow (m p : Nat) : 2 * (m * 2 ^ p) = m * 2 ^ (p + 1) := by
  rw [Nat.pow_succ, Nat.mul_comm (2 ^ p) 2, ← Nat.mul_assoc, ← Nat.mul_assoc, Nat.mul_comm m 2]

/-- One binade up is twice as much. -/
theorem sv_up {b : Nat} (h : 2 ^ 52 ≤ b) : sv double (b + 2 ^ 52) = 2 * sv double b := by
  have e : double.binade = 2 ^ 52 := rfl
  unfold sv
  rw [e, if_neg (by omega), if_neg (by omega)]
  have h1 : (b + 2 ^ 52) / 2 ^ 52 = b / 2 ^ 52 + 1 := Nat.add_div_right _ (Nat.two_pow_pos _)
  have h2 : (b + 2 ^ 52) % 2 ^ 52 = b % 2 ^ 52 := Nat.add_mod_right ..
  rw [h1, h2]
  have h3 : 1 ≤ b / 2 ^ 52 := (Nat.one_le_div_iff (Nat.two_pow_pos _)).2 h
  generalize b / 2 ^ 52 = d at *
  obtain ⟨c, rfl⟩ : ∃ c, d = c + 1 := ⟨d - 1, by omega⟩
  generalize 2 ^ 52 + b % 2 ^ 52 = y
  exact (two_mul_pow y c).symm

theorem two_num {j : Nat} (hj : j = 1023) : Num double 4611686018427387904 false (2 ^ 52) j := by
  refine ⟨by subst hj; decide +kernel, ?_, by decide, by decide⟩
  have e : rung double 4611686018427387904 = 1024 * 2 ^ 52 := by decide
  rw [e, sv_binade 1024 (by omega), ← Nat.pow_add, show 52 + j = 1024 + 51 by omega]

theorem pow_pair {x a b c d : Nat} (h : a + b = c + d) : x * 2 ^ a * 2 ^ b = x * 2 ^ c * 2 ^ d := by
  rw [Nat.mul_assoc, Nat.mul_assoc, ← Nat.pow_add, ← Nat.pow_add, h]

/-- Half of a normal number. -/
theorem quo_two {b : Nat} (h1 : 2 * 2 ^ 52 ≤ b) (h2 : b < 2047 * 2 ^ 52) : fop .quo .f64 (some b) (some 4611686018427387904) = some (b - 2 ^ 52) := by
  have hret : ∀ c, c = b - 2 ^ 52 → fop .quo .f64 (some b) (some 4611686018427387904) = some c → fop .quo .f64 (some b) (some 4611686018427387904) = some (b - 2 ^ 52) := fun c e h => by rw [← e]; exact h
  obtain ⟨c, hcb⟩ : ∃ c, c = b - 2 ^ 52 := ⟨_, rfl⟩
  refine hret c hcb ?_
  have hbc : b = c + 2 ^ 52 := by omega
  have hc : 2 ^ 52 ≤ c := by omega
  have hi : double.infRung = 2047 * 2 ^ 52 := by decide
  obtain ⟨m, p, hn⟩ := read_num double (b := b) (by rw [pos_rung (by omega), hi]; exact h2)
  have hv := hn.val
  rw [pos_rung (by omega), hbc, sv_up hc] at hv
  have hsm := hn.small
  rw [pos_sgn (by omega)] at hn
  have hlow : 2 ^ 52 ≤ sv double c := by
    have := sv_binade 1 (by omega)
    rw [← this]
    exact (sv_le_iff double _ _).2 (by omega)
  have hm0 : m ≠ 0 := by intro e; rw [e, Nat.zero_mul] at hv; omega
  have hp : 1 ≤ p := by
    rcases Nat.eq_zero_or_pos p with e | e
    · rw [e, Nat.pow_zero, Nat.mul_one] at hv
      have e2 : double.binade = 2 ^ 52 := rfl
      rw [e2] at hsm
      omega
    · exact e
  have hvc : sv double c = m * 2 ^ (p - 1) := by
    obtain ⟨q, rfl⟩ : ∃ q, p = q + 1 := ⟨p - 1, by omega⟩
    rw [Nat.pow_succ, ← Nat.mul_assoc, Nat.mul_comm] at hv
    rw [Nat.add_sub_cancel]; omega
  have hlog : m.log2 ≤ 52 := by
    have : m.log2 < 53 := (Nat.log2_lt hm0).2 hsm
    omega
  show ((double.read b).quotient (double.fractionBits + 2) (double.read 4611686018427387904)).map double.write = _
  obtain ⟨j, hj⟩ : ∃ j, j = 1023 := ⟨_, rfl⟩
  rw [hn.read, (two_num hj).read, least_double]
  simp only [Datum.quotient]
  have hf : double.fractionBits + 2 = 54 := rfl
  have hl2 : (2 ^ 52 : Nat).log2 = 52 := Nat.log2_two_pow
  rw [if_neg (Nat.ne_of_gt (Nat.two_pow_pos 52)), hf, hl2, Nat.shiftLeft_eq]
  generalize hmore : 54 + 52 - m.log2 = more
  obtain ⟨k, rfl⟩ : ∃ k, more = k + 52 := ⟨more - 52, by omega⟩
  have hdiv : m * 2 ^ (k + 52) / 2 ^ 52 = m * 2 ^ k := by rw [Nat.pow_add, ← Nat.mul_assoc]; exact Nat.mul_div_cancel _ (Nat.two_pow_pos _)
  have hmod : m * 2 ^ (k + 52) % 2 ^ 52 = 0 := by rw [Nat.pow_add, ← Nat.mul_assoc]; exact Nat.mul_mod_left ..
  rw [hdiv, hmod]
  show some (double.nearest _ _ _) = _
  rw [nearest_word]
  have hnear : near double (false ^^ false) (2 * (m * 2 ^ k) + ((0 : Nat) != 0).toNat) (-1074 + (p : Int) - (-1074 + (j : Int)) - ((k + 52 : Nat) : Int) - 1) = c := by
    have e0 : ((0 : Nat) != 0).toNat = 0 := rfl
    rw [e0, Nat.add_zero]
    refine near_exact double _ _ _ c (by rw [hi]; omega) (Nat.mul_ne_zero (by omega) (Nat.mul_ne_zero hm0 (Nat.ne_of_gt (Nat.two_pow_pos k)))) ?_
    rw [least_double, hvc, two_mul_pow]
    exact pow_pair (by omega)
  rw [hnear]; rfl

/-- Twice a normal number. -/
theorem mul_two {b : Nat} (h1 : 2 ^ 52 ≤ b) (h2 : b + 2 ^ 52 < 2047 * 2 ^ 52) : fop .mul .f64 (some b) (some 4611686018427387904) = some (b + 2 ^ 52) := by
  have hret : ∀ c, c = b + 2 ^ 52 → fop .mul .f64 (some b) (some 4611686018427387904) = some c → fop .mul .f64 (some b) (some 4611686018427387904) = some (b + 2 ^ 52) := fun c e h => by rw [← e]; exact h
  obtain ⟨c, hcb⟩ : ∃ c, c = b + 2 ^ 52 := ⟨_, rfl⟩
  refine hret c hcb ?_
  have hi : double.infRung = 2047 * 2 ^ 52 := by decide
  obtain ⟨m, p, hn⟩ := read_num double (b := b) (by rw [pos_rung (by omega), hi]; omega)
  have hv := hn.val
  rw [pos_rung (by omega)] at hv
  rw [pos_sgn (by omega)] at hn
  have hlow : 2 ^ 52 ≤ sv double b := by
    have := sv_binade 1 (by omega)
    rw [← this]
    exact (sv_le_iff double _ _).2 (by omega)
  have hm0 : m ≠ 0 := by intro e; rw [e, Nat.zero_mul] at hv; omega
  show ((double.read b).product (double.read 4611686018427387904)).map double.write = _
  obtain ⟨j, hj⟩ : ∃ j, j = 1023 := ⟨_, rfl⟩
  rw [hn.read, (two_num hj).read, least_double]
  show some (double.nearest _ _ _) = _
  rw [nearest_word]
  have hnear : near double (false ^^ false) (m * 2 ^ 52) (-1074 + (p : Int) + (-1074 + (j : Int))) = c := by
    refine near_exact double _ _ _ _ (by rw [hi]; omega) (Nat.mul_ne_zero hm0 (Nat.ne_of_gt (Nat.two_pow_pos _))) ?_
    rw [least_double, hcb, sv_up h1, ← hv, two_mul_pow]
    exact pow_pair (by omega)
  rw [hnear]
  rfl

end Go.Proofs.Ytpfijbgkhekjfab.Fl
