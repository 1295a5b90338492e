/-
  Plain facts on float64 words: the whole part, what is left of it, halves and doubles. No program in sight; no condition.
-/
import Derived.Test.YtpfijbgkhekjfabFu
import Derived.Laws.FloatArith
set_option linter.unusedVariables false
namespace Go.Proofs.Ytpfijbgkhekjfab.Fl
open Ieee

theorem cut_zero (neg : Bool) (n drop : Nat) : Toward.zero.cut neg n drop = n / 2 ^ drop := by
  have h0 : Toward.zero.cut neg n drop = n / (1 <<< min drop (n.log2 + 2)) := rfl
  rw [h0, Nat.shiftLeft_eq, Nat.one_mul]
  by_cases h : drop ≤ n.log2 + 2
  · rw [Nat.min_eq_left h]
  · rw [Nat.min_eq_right (by omega)]
    have h1 : n < 2 ^ (n.log2 + 1) := Nat.lt_log2_self
    have h2 : n < 2 ^ (n.log2 + 2) := Nat.lt_of_lt_of_le h1 (Nat.pow_le_pow_right (by omega) (by omega))
    have h3 : n < 2 ^ drop := Nat.lt_of_lt_of_le h1 (Nat.pow_le_pow_right (by omega) (by omega))
    rw [Nat.div_eq_of_lt h2, Nat.div_eq_of_lt h3]

/-- The whole part of a float64's magnitude. -/
def wholeE (E b : Nat) : Nat := sv double (rung double b) / 2 ^ E
def wholeN (b : Nat) : Nat := wholeE 1074 b

theorem whole_parts {E : Nat} (hE : E = 1074) {b m p : Nat} {s : Bool} (hn : Num double b s m p) :
    (m <<< ((-1074 : Int) + (p : Int)).toNat) / 2 ^ (-((-1074 : Int) + (p : Int))).toNat = wholeE E b := by
  unfold wholeE
  rw [← hn.val, Nat.shiftLeft_eq]
  by_cases h : E ≤ p
  · obtain ⟨d, rfl⟩ : ∃ d, p = E + d := ⟨p - E, by omega⟩
    rw [show (-((-1074 : Int) + ((E + d : Nat) : Int))).toNat = 0 by omega, show ((-1074 : Int) + ((E + d : Nat) : Int)).toNat = d by omega, Nat.pow_zero, Nat.div_one, Nat.add_comm E d, Nat.pow_add, ← Nat.mul_assoc,
      Nat.mul_div_cancel _ (Nat.two_pow_pos E)]
  · obtain ⟨d, hd⟩ : ∃ d, E = d + p := ⟨E - p, by omega⟩
    rw [show (-((-1074 : Int) + (p : Int))).toNat = d by omega, show ((-1074 : Int) + (p : Int)).toNat = 0 by omega, Nat.pow_zero, Nat.mul_one, hd, Nat.pow_add, Nat.mul_div_mul_right _ _ (Nat.two_pow_pos p)]

theorem integral_fin {b : Nat} (hf : rung double b < double.infRung) : (FloatKind.f64.decode b).integral .zero = .number (sgn double b) (wholeN b) 0 := by
  obtain ⟨m, p, hn⟩ := read_num double hf
  show (double.read b).integral .zero = _
  rw [hn.read, least_double]
  show Datum.number _ (Toward.zero.cut _ _ _) 0 = _
  rw [cut_zero, whole_parts rfl hn]
  rfl

/-- The float64 with the whole part of another one, and its sign. -/
def tr (b : Nat) : Nat := double.nearest (sgn double b) (wholeN b) 0

theorem encode_tr {b : Nat} (hf : rung double b < double.infRung) : FloatKind.f64.encode ((FloatKind.f64.decode b).integral .zero) = tr b := by
  rw [integral_fin hf]; rfl

theorem toInt_fin {b : Nat} (hf : rung double b < double.infRung) : (FloatKind.f64.decode b).toInt .zero = some (signed (sgn double b) (wholeN b) 0) := by
  unfold Datum.toInt
  rw [integral_fin hf]

theorem whole_lt {E K : Nat} (hE : E = 1074) (hK : 1023 ≤ K) {b : Nat} (h : rung double b < K * 2 ^ 52) : wholeE E b < 2 ^ (K - 1023) := by
  unfold wholeE
  have h1 := (sv_lt_iff double _ _).2 h
  rw [sv_binade K (by omega)] at h1
  rw [Nat.div_lt_iff_lt_mul (Nat.two_pow_pos E), ← Nat.pow_add, show K - 1023 + E = K + 51 by omega]
  exact h1

/-- Below 2 to the 52nd the whole part is a number of its own. -/
theorem rung_tr {E b : Nat} (hE : E = 1074) (h : wholeE E b < 2 ^ 53) (h0 : wholeE E b ≠ 0) :
    ∃ r, r < double.infRung ∧ sv double r = wholeE E b * 2 ^ E ∧ near double (sgn double b) (wholeE E b) 0 = r := by
  obtain ⟨r, hr⟩ := rung_exists double (wholeE E b) E (by show _ < 2 * 2 ^ 52; omega)
  have hlt : r < double.infRung := by
    refine (sv_lt_iff double _ _).1 ?_
    rw [hr, sv_inf double (by decide)]
    have e : 53 + E ≤ double.fractionBits + (2 ^ double.exponentBits - 2) := by rw [hE]; decide
    exact Nat.lt_of_lt_of_le (lt_split (n := 53) (c := E) (N := 53 + E) rfl h) (Nat.pow_le_pow_right (by omega) e)
  refine ⟨r, hlt, hr, near_exact double _ _ 0 r (Nat.le_of_lt hlt) h0 ?_⟩
  rw [least_double, hr, show ((0 : Int) - -1074).toNat = E by omega, show ((-1074 : Int) - 0).toNat = 0 by omega, Nat.pow_zero, Nat.mul_one]

theorem tr_lt (b : Nat) : tr b < 2 ^ FloatKind.f64.format.width := by
  unfold tr
  rw [nearest_word]
  exact double.word_lt _ (near_lt ..)
theorem tr_cls (b : Nat) : cls .f64 (tr b) = some (tr b) := cls_write .f64 (.number (sgn double b) (wholeN b) 0) rfl
theorem fv_tr (b : Nat) : Fv .f64 (tr b) (some (tr b)) := ⟨tr_lt b, tr_cls b⟩
theorem tr_rung (b : Nat) : rung double (tr b) = near double (sgn double b) (wholeN b) 0 := rung_nearest ..
theorem tr_sgn (b : Nat) : sgn double (tr b) = sgn double b := sgn_nearest ..

theorem cmp_lt' (a b : Int) : (some (compare a b) == some Ordering.lt) = decide (a < b) := by
  rcases Int.lt_trichotomy a b with h | h | h
  · rw [compare_lt h]; simp [h]
  · rw [compare_eq h]; simp [h]
  · rw [compare_gt h]; simp; omega
theorem cmp_gt' (a b : Int) : (some (compare a b) == some Ordering.gt) = decide (b < a) := by
  rcases Int.lt_trichotomy a b with h | h | h
  · rw [compare_lt h]; simp; omega
  · rw [compare_eq h]; simp [h]
  · rw [compare_gt h]; simp [h]
theorem cmp_eq' (a b : Int) : (some (compare a b) == some Ordering.eq) = decide (a = b) := by
  rcases Int.lt_trichotomy a b with h | h | h
  · rw [compare_lt h]; simp; omega
  · rw [compare_eq h]; simp [h]
  · rw [compare_gt h]; simp; omega

theorem ford_some (k : FloatKind) (a b : Nat) : ford k (some a) (some b) = some (compare (srung k.format a) (srung k.format b)) := rfl

theorem tr_zero (b : Nat) : (ford .f64 (some (tr b)) (some 0) == some .eq) = decide (wholeN b = 0) := by
  rw [ford_some, cmp_eq']
  have e0 : srung FloatKind.f64.format 0 = 0 := by decide
  rw [e0]
  have hs : srung FloatKind.f64.format (tr b) = 0 ↔ rung double (tr b) = 0 := by
    show srung double (tr b) = 0 ↔ _
    unfold srung pm
    cases sgn double (tr b) <;> simp
  by_cases h : wholeN b = 0
  · have : rung double (tr b) = 0 := by rw [tr_rung, h]; unfold near; rw [if_pos rfl]
    rw [decide_eq_true (hs.2 this), decide_eq_true h]
  · have h1 : 1023 * 2 ^ 52 ≤ rung double (tr b) := by
      rw [tr_rung]
      exact near_lower h (by omega) (by omega) (by omega)
    have : rung double (tr b) ≠ 0 := by omega
    rw [decide_eq_false (fun e => this (hs.1 e)), decide_eq_false h]

/-- What is left behind the whole part. -/
def fracC : Option Nat → Option Nat
  | none => none
  | some b => if wholeN b = 0 then some b else fop .sub .f64 (some b) (some (tr b))

theorem fracC_some (b : Nat) : fracC (some b) = if wholeN b = 0 then some b else fop .sub .f64 (some b) (some (tr b)) := rfl

/-- It is at most 1. -/
theorem bd_frac0 {E b : Nat} (hE : E = 1074) (hb : rung double b < 1075 * 2 ^ 52) (hw : wholeN b = wholeE E b) : Bd (fracC (some b)) 1023 := by
  have hf : rung double b < double.infRung := Nat.lt_of_lt_of_le hb (by decide)
  have hV := Nat.div_add_mod (sv double (rung double b)) (2 ^ E)
  have hR := Nat.mod_lt (sv double (rung double b)) (Nat.two_pow_pos E)
  have hN : wholeE E b = sv double (rung double b) / 2 ^ E := rfl
  rw [← hN] at hV
  generalize sv double (rung double b) % 2 ^ E = R at *
  rw [fracC_some, hw]
  by_cases h0 : wholeE E b = 0
  · rw [if_pos h0]
    rw [h0, Nat.mul_zero, Nat.zero_add] at hV
    intro c hc
    cases hc
    refine Nat.le_of_lt ((sv_lt_iff double _ _).1 ?_)
    rw [sv_binade 1023 (by omega), ← hV, show 1023 + 51 = E by omega]
    exact hR
  · rw [if_neg h0]
    have hlt : wholeE E b < 2 ^ 53 := Nat.lt_of_lt_of_le (whole_lt hE (by omega) hb) (by decide)
    obtain ⟨r, hr, hsv, hnear⟩ := rung_tr hE hlt h0
    have htr : rung double (tr b) = r := by rw [tr_rung, hw]; exact hnear
    obtain ⟨m, p, hm⟩ := read_num double hf
    obtain ⟨n, q, hq⟩ := read_num double (b := tr b) (by rw [htr]; exact hr)
    have hms := hm.val
    have hqs := hq.val
    rw [htr, hsv] at hqs
    rw [tr_sgn] at hq
    intro c hc
    have hc' : ((double.read b).sum (double.read (tr b)).opposite).map double.write = some c := hc
    rw [hm.read, hq.read, least_double] at hc'
    simp only [Datum.opposite, Datum.sum, Option.map_some, Option.some.injEq] at hc'
    have hmin : min ((-1074 : Int) + (p : Int)) (-1074 + (q : Int)) = -1074 + ((min p q : Nat) : Int) := by omega
    rw [hmin, show ((-1074 : Int) + (p : Int) - (-1074 + ((min p q : Nat) : Int))).toNat = p - min p q by omega, show ((-1074 : Int) + (q : Int) - (-1074 + ((min p q : Nat) : Int))).toNat = q - min p q by omega] at hc'
    generalize hl : min p q = l at *
    have ha : m * 2 ^ (p - l) * 2 ^ l = sv double (rung double b) := by rw [Nat.mul_assoc, ← Nat.pow_add, show p - l + l = p by omega]; exact hms
    have hb2 : n * 2 ^ (q - l) * 2 ^ l = wholeE E b * 2 ^ E := by rw [Nat.mul_assoc, ← Nat.pow_add, show q - l + l = q by omega]; exact hqs
    rw [signed_pm, signed_pm] at hc'
    generalize m * 2 ^ (p - l) = x at *
    generalize n * 2 ^ (q - l) = y at *
    have hxy : y ≤ x := by
      refine Nat.le_of_mul_le_mul_right (?_ : y * 2 ^ l ≤ x * 2 ^ l) (Nat.two_pow_pos l)
      rw [ha, hb2, ← hV, Nat.mul_comm]; omega
    have hd : (x - y) * 2 ^ l = R := by
      rw [Nat.sub_mul, ha, hb2, ← hV, Nat.mul_comm]; omega
    have habs : (pm (sgn double b) x + pm (!sgn double b) y).natAbs = x - y := by
      unfold pm; cases sgn double b <;> simp <;> omega
    rw [habs] at hc'
    rw [← hc']
    show rung double (double.nearest _ _ _) ≤ _
    rw [rung_nearest]
    refine near_double (P := 1023) (by omega) ?_
    by_cases hz : x - y = 0
    · exact Or.inl hz
    · right
      have hle : l ≤ E := by
        have h3 : 0 < x - y := by omega
        have h2 : 2 ^ l ≤ (x - y) * 2 ^ l := Nat.le_mul_of_pos_left _ h3
        have h1 : 2 ^ l < 2 ^ E := Nat.lt_of_le_of_lt h2 (by rw [hd]; exact hR)
        exact Nat.le_of_lt ((Nat.pow_lt_pow_iff_right (by omega)).1 h1)
      refine ⟨by omega, ?_⟩
      rw [show ((1023 : Nat) : Int) - 1023 - (-1074 + (l : Int)) = ((E - l : Nat) : Int) by omega, Int.toNat_natCast]
      refine Nat.le_of_mul_le_mul_right (?_ : (x - y) * 2 ^ l ≤ 2 ^ (E - l) * 2 ^ l) (Nat.two_pow_pos l)
      rw [hd, ← Nat.pow_add, show E - l + l = E by omega]
      exact Nat.le_of_lt hR

theorem bd_frac {b : Nat} (hb : rung double b < 1075 * 2 ^ 52) : Bd (fracC (some b)) 1023 := bd_frac0 rfl hb rfl

/-- The reference's way to it: through an integer. -/
theorem frac_int {b : Nat} (hb : b < 2 ^ 64) (hf : rung double b < double.infRung) :
    fop .sub .f64 (some b) (some (FloatKind.f64.nearest (signed (sgn double b) (wholeN b) 0))) = fracC (some b) := by
  rw [fracC_some]
  by_cases h0 : wholeN b = 0
  · rw [if_pos h0, h0]
    have e : signed (sgn double b) 0 0 = 0 := by cases sgn double b <;> rfl
    rw [e]
    have e2 : FloatKind.f64.nearest 0 = 0 := by decide +kernel
    rw [e2]
    exact sub_zero hb hf
  · rw [if_neg h0]
    have e : FloatKind.f64.nearest (signed (sgn double b) (wholeN b) 0) = tr b := by
      unfold FloatKind.nearest tr
      show double.nearest _ _ 0 = _
      have h1 : (decide (signed (sgn double b) (wholeN b) 0 < 0)) = sgn double b := by
        rw [signed_pm, Nat.pow_zero, Nat.mul_one]
        unfold pm
        cases sgn double b <;> simp <;> omega
      have h2 : (signed (sgn double b) (wholeN b) 0).natAbs = wholeN b := by rw [natAbs_signed, Nat.pow_zero, Nat.mul_one]
      rw [h1, h2]
    rw [e]

theorem toInt_val {b : Nat} (hb : rung double b < 1075 * 2 ^ 52) : floatToIntVal .f64 b .i64 = some (signed (sgn double b) (wholeN b) 0) := by
  have hf : rung double b < double.infRung := Nat.lt_of_lt_of_le hb (by decide)
  unfold floatToIntVal
  rw [toInt_fin hf]
  have h1 : wholeN b < 2 ^ 52 := whole_lt rfl (K := 1075) (by omega) hb
  have h2 : IntKind.i64.min ≤ signed (sgn double b) (wholeN b) 0 ∧ signed (sgn double b) (wholeN b) 0 ≤ IntKind.i64.max := by
    rw [signed_pm, Nat.pow_zero, Nat.mul_one]
    have e1 : IntKind.i64.min = -9223372036854775808 := rfl
    have e2 : IntKind.i64.max = 9223372036854775807 := rfl
    rw [e1, e2]
    unfold pm
    cases sgn double b <;> simp <;> omega
  simp only
  rw [if_pos h2]

end Go.Proofs.Ytpfijbgkhekjfab.Fl
