/-
  Floats up to the bits of a NaN: the class of a word, and what the operations do to classes. No program in sight; no condition.
-/
import Derived.Test.YteibkechlkjpgabDoorFr
set_option linter.unusedVariables false
namespace Go.Proofs.YteibkechlkjpgabDoor.Fl
open Ieee

theorem bb (k : FloatKind) : k.format.binade ≤ k.format.infRung := by
  cases k <;> simp [FloatKind.format, single, double, Format.binade, Format.infRung]

/-- A word's class: 'none' for every NaN, the word itself for all others. -/
def cls (k : FloatKind) (b : Nat) : Option Nat := if k.format.infRung < rung k.format b then none else some b

/-- The word 'b' fits its kind and is of the class 'c'. -/
structure Fv (k : FloatKind) (b : Nat) (c : Option Nat) : Prop where
  lt : b < 2 ^ k.format.width
  is : cls k b = c

theorem Fv.self {k : FloatKind} {b : Nat} (h : b < 2 ^ k.format.width) : Fv k b (cls k b) := ⟨h, rfl⟩

theorem cls_none {k : FloatKind} {b : Nat} : cls k b = none ↔ k.format.infRung < rung k.format b := by
  unfold cls; split <;> simp_all

theorem cls_some {k : FloatKind} {b a : Nat} : cls k b = some a ↔ rung k.format b ≤ k.format.infRung ∧ b = a := by
  unfold cls
  by_cases h : k.format.infRung < rung k.format b
  · simp [h]; omega
  · simp [h]; omega

theorem cls_of {k : FloatKind} {b : Nat} (h : rung k.format b ≤ k.format.infRung) : cls k b = some b := cls_some.2 ⟨h, rfl⟩

theorem decode_nan {k : FloatKind} {b : Nat} (h : cls k b = none) : ∃ s t, k.decode b = .nan s t := ⟨_, _, read_nan k.format (bb k) (cls_none.1 h)⟩

/-- A literal word that is no NaN. -/
def okw (k : FloatKind) (b : Nat) : Bool := decide (b < 2 ^ k.format.width) && decide (rung k.format b ≤ k.format.infRung)

theorem fvc {k : FloatKind} {b : Nat} (h : okw k b = true) : Fv k b (some b) := by
  unfold okw at h
  simp only [Bool.and_eq_true, decide_eq_true_eq] at h
  exact ⟨h.1, cls_of h.2⟩

/-! ### order -/
def ford (k : FloatKind) (x y : Option Nat) : Option Ordering := x.bind fun a => y.bind fun b => some (compare (srung k.format a) (srung k.format b))

theorem order_cls (k : FloatKind) (a b : Nat) : k.format.order a b = ford k (cls k a) (cls k b) := by
  unfold ford
  by_cases ha : k.format.infRung < rung k.format a
  · rw [order_nan_left _ (bb k) _ ha, cls_none.2 ha]; rfl
  · rw [cls_of (by omega)]
    by_cases hb : k.format.infRung < rung k.format b
    · rw [order_nan_right _ (bb k) _ hb, cls_none.2 hb]; rfl
    · rw [cls_of (by omega), order_eq _ (bb k) (by omega) (by omega)]; rfl

theorem order_fv {k : FloatKind} {a b : Nat} {x y : Option Nat} (ha : Fv k a x) (hb : Fv k b y) : k.format.order a b = ford k x y := by
  rw [order_cls, ha.is, hb.is]

/-! ### what is written is no NaN -/
theorem cls_write (k : FloatKind) (d : Datum) (h : d.isNaN = false) : cls k (k.format.write d) = some (k.format.write d) := by
  refine cls_of ?_
  cases d with
  | number s m e => show rung _ (k.format.nearest s m e) ≤ _; rw [rung_nearest]; exact near_le_inf ..
  | infinity s => show rung _ (k.format.word s k.format.infRung) ≤ _; rw [rung_word _ _ k.format.infRung_lt]; exact Nat.le_refl _
  | nan s t => simp [Datum.isNaN] at h

theorem sum_fair {x y d : Datum} (h : x.sum y = some d) : d.isNaN = false ∧ x.isNaN = false ∧ y.isNaN = false := by
  cases x <;> cases y <;> simp only [Datum.sum] at h <;> (try split at h) <;> simp_all [Datum.isNaN] <;> (subst h; rfl)

theorem product_fair {x y d : Datum} (h : x.product y = some d) : d.isNaN = false ∧ x.isNaN = false ∧ y.isNaN = false := by
  cases x <;> cases y <;> simp only [Datum.product] at h <;> (try split at h) <;> simp_all [Datum.isNaN] <;> (subst h; rfl)

theorem quotient_fair {g : Nat} {x y d : Datum} (h : x.quotient g y = some d) : d.isNaN = false ∧ x.isNaN = false ∧ y.isNaN = false := by
  cases x <;> cases y <;> simp only [Datum.quotient] at h <;> (repeat' split at h) <;> simp_all [Datum.isNaN] <;> (subst h; rfl)

theorem root_fair {g : Nat} {x d : Datum} (h : x.root g = some d) : d.isNaN = false ∧ x.isNaN = false := by
  cases x <;> simp only [Datum.root] at h <;> (repeat' split at h) <;> simp_all [Datum.isNaN] <;> (subst h; rfl)

theorem opposite_nan (d : Datum) : d.opposite.isNaN = d.isNaN := by cases d <;> rfl

theorem isNaN_cls {k : FloatKind} {b : Nat} (h : (k.format.read b).isNaN = false) : cls k b = some b := by
  rw [isNaN_iff _ (bb k)] at h
  simp at h
  exact cls_of h

/-- A VALID OPERATION: no operand is a NaN, nor is the result. -/
theorem floatBits_fair {op : BinOp} {k : FloatKind} {a b r : Nat} (h : floatBits op k a b = some r) : cls k r = some r ∧ cls k a = some a ∧ cls k b = some b := by
  unfold floatBits at h
  split at h
  · obtain ⟨d, hd, rfl⟩ := Option.map_eq_some_iff.1 h
    obtain ⟨h1, h2, h3⟩ := sum_fair hd
    exact ⟨cls_write k d h1, isNaN_cls h2, isNaN_cls h3⟩
  · obtain ⟨d, hd, rfl⟩ := Option.map_eq_some_iff.1 h
    obtain ⟨h1, h2, h3⟩ := sum_fair hd
    rw [opposite_nan] at h3
    exact ⟨cls_write k d h1, isNaN_cls h2, isNaN_cls h3⟩
  · obtain ⟨d, hd, rfl⟩ := Option.map_eq_some_iff.1 h
    obtain ⟨h1, h2, h3⟩ := product_fair hd
    exact ⟨cls_write k d h1, isNaN_cls h2, isNaN_cls h3⟩
  · obtain ⟨d, hd, rfl⟩ := Option.map_eq_some_iff.1 h
    obtain ⟨h1, h2, h3⟩ := quotient_fair hd
    exact ⟨cls_write k d h1, isNaN_cls h2, isNaN_cls h3⟩
  · cases h

/-- An arithmetical operation on classes. -/
def fop (op : BinOp) (k : FloatKind) (x y : Option Nat) : Option Nat := x.bind fun a => y.bind fun b => floatBits op k a b

theorem floatBits_cls (op : BinOp) (k : FloatKind) (a b : Nat) : floatBits op k a b = fop op k (cls k a) (cls k b) := by
  unfold fop
  by_cases ha : cls k a = none
  · cases h : floatBits op k a b with
    | none => simp [ha]
    | some r => have := (floatBits_fair h).2.1; rw [ha] at this; cases this
  · by_cases hb : cls k b = none
    · cases h : floatBits op k a b with
      | none => simp [hb]
      | some r => have := (floatBits_fair h).2.2; rw [hb] at this; cases this
    · have ea : cls k a = some a := by
        cases h : cls k a with
        | none => exact absurd h ha
        | some c => rw [(cls_some.1 h).2]
      have eb : cls k b = some b := by
        cases h : cls k b with
        | none => exact absurd h hb
        | some c => rw [(cls_some.1 h).2]
      rw [ea, eb]; rfl

/-- The bits of a NaN that the tape may give. -/
theorem nan_draw (k : FloatKind) (t : Nat) (v : Nat) (hv : v = match k with | .f32 => (t % 2) * 2 ^ 31 + 0x7f800000 + 1 + (t / 2) % (2 ^ 23 - 1) | .f64 => (t % 2) * 2 ^ 63 + 0x7ff0000000000000 + 1 + (t / 2) % (2 ^ 52 - 1)) : Fv k v none := by
  cases k
  · simp only at hv
    have h1 : (t / 2) % (2 ^ 23 - 1) < 2 ^ 23 - 1 := Nat.mod_lt _ (by omega)
    have h2 : t % 2 < 2 := Nat.mod_lt _ (by omega)
    generalize t % 2 = a at *
    generalize (t / 2) % (2 ^ 23 - 1) = b at *
    have ha : a = 0 ∨ a = 1 := by omega
    refine ⟨?_, cls_none.2 ?_⟩
    · show v < 2 ^ 32; omega
    · show 2139095040 < v % 2147483648
      rcases ha with rfl | rfl <;> omega
  · simp only at hv
    have h1 : (t / 2) % (2 ^ 52 - 1) < 2 ^ 52 - 1 := Nat.mod_lt _ (by omega)
    have h2 : t % 2 < 2 := Nat.mod_lt _ (by omega)
    generalize t % 2 = a at *
    generalize (t / 2) % (2 ^ 52 - 1) = b at *
    have ha : a = 0 ∨ a = 1 := by omega
    refine ⟨?_, cls_none.2 ?_⟩
    · show v < 2 ^ 64; omega
    · show 9218868437227405312 < v % 9223372036854775808
      rcases ha with rfl | rfl <;> omega

theorem fv_nanBits (k : FloatKind) (x y t : Nat) : Fv k ((Question.nanBits k x y).cut t) none := by
  cases k <;> exact nan_draw _ t _ rfl

theorem fv_nanConv (k : FloatKind) (x t : Nat) : Fv k ((Question.nanConv k x).cut t) none := by
  cases k <;> exact nan_draw _ t _ rfl

/-! ### the sign -/
theorem xor_top {n r : Nat} (h : r < 2 ^ n) : r ^^^ 2 ^ n = 2 ^ n + r := by
  have hor := Nat.two_pow_add_eq_or_of_lt h 1
  rw [Nat.mul_one] at hor
  rw [hor]
  apply Nat.eq_of_testBit_eq
  intro i
  rw [Nat.testBit_xor, Nat.testBit_or, Nat.testBit_two_pow]
  by_cases e : n = i
  · subst e; simp [Nat.testBit_lt_two_pow h]
  · simp [e]

theorem neg_word (k : FloatKind) (s : Bool) {r : Nat} (h : r < k.format.signWeight) : Op.negFloat k (k.format.word s r) = k.format.word (!s) r := by
  unfold Op.negFloat
  have e : k.format.signWeight = 2 ^ (k.format.exponentBits + k.format.fractionBits) := rfl
  rw [e] at h
  cases s
  · show r ^^^ _ = k.format.signWeight + r
    rw [xor_top h]; rfl
  · show (k.format.signWeight + r) ^^^ _ = r
    rw [e, ← xor_top h, Nat.xor_assoc, Nat.xor_self, Nat.xor_zero]

theorem neg_rung {k : FloatKind} {b : Nat} (h : b < 2 ^ k.format.width) : rung k.format (Op.negFloat k b) = rung k.format b := by
  have hw := word_eq k.format h
  rw [← hw, neg_word k _ (rung_lt ..), rung_word _ _ (rung_lt ..), rung_word _ _ (rung_lt ..)]

theorem neg_sgn {k : FloatKind} {b : Nat} (h : b < 2 ^ k.format.width) : sgn k.format (Op.negFloat k b) = !sgn k.format b := by
  have hw := word_eq k.format h
  rw [← hw, neg_word k _ (rung_lt ..), sgn_word _ _ (rung_lt ..), sgn_word _ _ (rung_lt ..)]

theorem neg_lt {k : FloatKind} {b : Nat} (h : b < 2 ^ k.format.width) : Op.negFloat k b < 2 ^ k.format.width := by
  have hw := word_eq k.format h
  rw [← hw, neg_word k _ (rung_lt ..)]
  exact k.format.word_lt _ (rung_lt ..)

def fneg (k : FloatKind) (x : Option Nat) : Option Nat := x.map (Op.negFloat k)

theorem Fv.neg {k : FloatKind} {b : Nat} {c : Option Nat} (h : Fv k b c) : Fv k (Op.negFloat k b) (fneg k c) := by
  refine ⟨neg_lt h.lt, ?_⟩
  rw [← h.is]
  unfold cls fneg
  rw [neg_rung h.lt]
  split <;> rfl

/-! ### conversions -/
def fconv (s d : FloatKind) (x : Option Nat) : Option Nat := x.bind fun b => floatToFloatBits s b d

/-- A conversion to a float that is not greater than its kind's greatest. -/
def Fits (s d : FloatKind) (x : Option Nat) : Prop := ∀ b, x = some b → floatToFloatBits s b d ≠ none

theorem fits_none (s d : FloatKind) : Fits s d none := fun _ h => by cases h
theorem fits_same (s : FloatKind) (x : Option Nat) : Fits s s x := fun b _ => by unfold floatToFloatBits; rw [if_pos rfl]; simp

theorem sv_inf (f : Format) (h : 2 ≤ 2 ^ f.exponentBits) : sv f f.infRung = 2 ^ (f.fractionBits + (2 ^ f.exponentBits - 2)) := by
  have hp := binade_pos f
  have hd : f.infRung / f.binade = 2 ^ f.exponentBits - 1 := Nat.mul_div_cancel _ hp
  have hm : f.infRung % f.binade = 0 := Nat.mul_mod_left ..
  have hge : ¬ f.infRung < f.binade := by
    intro hc
    have := Nat.div_eq_of_lt hc
    omega
  unfold sv
  rw [if_neg hge, hd, hm, Nat.add_zero, Nat.pow_add, show 2 ^ f.exponentBits - 1 - 1 = 2 ^ f.exponentBits - 2 by omega]
  rfl

theorem lt_of_wf {k : FloatKind} {b : Nat} (h : (Lit.float k b).wf = true) : b < 2 ^ k.format.width := by
  cases k
  · simp only [Lit.wf, decide_eq_true_eq] at h; exact (show b < 2 ^ 32 from h)
  · simp only [Lit.wf, decide_eq_true_eq] at h; exact (show b < 2 ^ 64 from h)

theorem wf_fv {k : FloatKind} {b : Nat} {c : Option Nat} (h : Fv k b c) : (Lit.float k b).wf = true := wf_of_lt k b h.lt

theorem pow_split {m p v : Nat} (h : m * 2 ^ p = v) (c : Nat) : m * 2 ^ (p + c) = v * 2 ^ c := by
  rw [← h, Nat.pow_add, Nat.mul_assoc]

theorem inf_scale (f g : Format) (c : Nat) (hf : 2 ≤ 2 ^ f.exponentBits) (hg : 2 ≤ 2 ^ g.exponentBits)
    (h : f.fractionBits + (2 ^ f.exponentBits - 2) + c ≤ g.fractionBits + (2 ^ g.exponentBits - 2)) : sv f f.infRung * 2 ^ c ≤ sv g g.infRung := by
  rw [sv_inf f hf, sv_inf g hg, ← Nat.pow_add]
  exact Nat.pow_le_pow_right (by omega) h

theorem lt_scaled {a b y : Nat} (c : Nat) (h1 : a < b) (h2 : b * 2 ^ c ≤ y) : a * 2 ^ c < y :=
  Nat.lt_of_lt_of_le (Nat.mul_lt_mul_of_pos_right h1 (Nat.two_pow_pos c)) h2

theorem pow_cancel_le {m p v c : Nat} (h : m * 2 ^ p = v * 2 ^ c) (hp : p ≤ c) : m = v * 2 ^ (c - p) := by
  obtain ⟨d, rfl⟩ : ∃ d, c = d + p := ⟨c - p, by omega⟩
  rw [Nat.pow_add, ← Nat.mul_assoc] at h
  rw [Nat.add_sub_cancel]
  exact Nat.eq_of_mul_eq_mul_right (Nat.two_pow_pos p) h

theorem pow_cancel_ge {m p v c : Nat} (h : m * 2 ^ p = v * 2 ^ c) (hp : c ≤ p) : m * 2 ^ (p - c) = v := by
  exact (pow_cancel_le h.symm hp).symm

/-- From a float32 to a float64 nothing is lost. -/
theorem widen_bits {b : Nat} (hb : b < 2 ^ 32) (h : rung single b ≤ single.infRung) :
    ∃ r, floatToFloatBits .f32 b .f64 = some r ∧ r < 2 ^ 64 ∧ sgn double r = sgn single b ∧ rung double r ≤ double.infRung ∧
      (rung single b = single.infRung → rung double r = double.infRung) ∧
      (rung single b < single.infRung → rung double r < double.infRung ∧ sv double (rung double r) = sv single (rung single b) * 2 ^ 925) := by
  unfold floatToFloatBits
  rw [if_neg (by decide)]
  by_cases hi : rung single b = single.infRung
  · have e : FloatKind.f32.decode b = .infinity (sgn single b) := read_inf single (bb .f32) hi
    rw [e]
    refine ⟨_, rfl, (FloatKind.f64.format.write_lt _), ?_, ?_, ?_, ?_⟩
    · exact sgn_word double _ double.infRung_lt
    · exact Nat.le_of_eq (rung_word double _ double.infRung_lt)
    · intro _; exact rung_word double _ double.infRung_lt
    · intro c; omega
  · have hlt : rung single b < single.infRung := by omega
    obtain ⟨m, p, hn⟩ := read_num single hlt
    have e : FloatKind.f32.decode b = .number (sgn single b) m (single.leastPlace + (p : Int)) := hn.read
    rw [e]
    simp only
    -- the rung
    obtain ⟨r, hr⟩ := rung_exists double m (p + 925) (by have := hn.small; have : single.binade ≤ double.binade := by simp [Format.binade, single, double]
                                                         omega)
    have hrv : sv double r = sv single (rung single b) * 2 ^ 925 := hr.trans (pow_split hn.val 925)
    have hri : r < double.infRung := by
      refine (sv_lt_iff double _ _).1 ?_
      rw [hrv]
      have h1 := (sv_lt_iff single _ _).2 hlt
      exact lt_scaled 925 h1 (inf_scale single double 925 (by decide) (by decide) (by decide))
    have hnear : near double (sgn single b) m (single.leastPlace + (p : Int)) = r := by
      by_cases hm : m = 0
      · unfold near
        rw [if_pos hm]
        rw [hm, Nat.zero_mul, ← sv_zero double] at hr
        exact (sv_inj double hr).symm
      · refine near_exact double _ m _ r (Nat.le_of_lt hri) hm ?_
        have l1 : single.leastPlace = -149 := by decide
        have l2 : double.leastPlace = -1074 := by decide
        rw [l1, l2, hr, show ((-149 : Int) + (p : Int) - -1074).toNat = p + 925 by omega, show ((-1074 : Int) - (-149 + (p : Int))).toNat = 0 by omega, Nat.pow_zero, Nat.mul_one]
    have hrung : rung double (FloatKind.f64.encode (.number (sgn single b) m (single.leastPlace + (p : Int)))) = r := by
      show rung double (double.nearest _ _ _) = r
      rw [rung_nearest, hnear]
    have hninf : (FloatKind.f64.decode (FloatKind.f64.encode (.number (sgn single b) m (single.leastPlace + (p : Int))))).isInfinity = false := by
      show (double.read _).isInfinity = false
      rw [isInf_iff double (bb .f64), hrung]
      simp
      omega
    rw [if_neg (by rw [hninf]; simp)]
    refine ⟨_, rfl, FloatKind.f64.format.write_lt _, ?_, ?_, fun c => absurd c hi, fun _ => ⟨?_, ?_⟩⟩
    · show sgn double (double.nearest _ _ _) = _
      exact sgn_nearest ..
    · rw [hrung]; omega
    · rw [hrung]; exact hri
    · rw [hrung]; exact hrv

theorem fits_widen {b : Nat} {c : Option Nat} (h : Fv .f32 b c) : Fits .f32 .f64 c := by
  intro a ha
  subst ha
  obtain ⟨h1, rfl⟩ := cls_some.1 h.is
  obtain ⟨r, hr, _⟩ := widen_bits h.lt h1
  rw [hr]; simp

/-- A conversion whose result fits gives the class. -/
theorem conv_cls {s d : FloatKind} {b r : Nat} {c : Option Nat} (hb : Fv s b c) (h : floatToFloatBits s b d = some r) (hc : c ≠ none) : Fv d r (fconv s d c) := by
  cases c with
  | none => exact absurd rfl hc
  | some a =>
    obtain ⟨h1, rfl⟩ := cls_some.1 hb.is
    refine ⟨?_, ?_⟩
    · exact lt_of_wf (floatToFloatBits_wf (src := s) (bits := b) (dst := d) (r := r) (wf_of_lt s b hb.lt) h)
    · show cls d r = floatToFloatBits s b d
      rw [h]
      unfold floatToFloatBits at h
      by_cases e : s = d
      · subst e
        rw [if_pos rfl] at h
        cases h
        exact cls_of h1
      · rw [if_neg e] at h
        split at h
        · cases h
        · cases h; exact cls_write d _ rfl
        · split at h
          · cases h
          · cases h; exact cls_write d _ rfl

/-! ### the square root -/
def fsqrt (x : Option Nat) : Option Nat := x.bind fun b => FloatKind.f64.format.sqrt b

theorem sqrt_fair {b r : Nat} (h : FloatKind.f64.format.sqrt b = some r) : cls .f64 r = some r ∧ cls .f64 b = some b := by
  obtain ⟨d, hd, rfl⟩ := Option.map_eq_some_iff.1 h
  obtain ⟨h1, h2⟩ := root_fair hd
  exact ⟨cls_write .f64 d h1, isNaN_cls h2⟩

theorem sqrt_cls (b : Nat) : FloatKind.f64.format.sqrt b = fsqrt (cls .f64 b) := by
  unfold fsqrt
  cases hc : cls .f64 b with
  | none =>
    cases h : FloatKind.f64.format.sqrt b with
    | none => rfl
    | some r => have := (sqrt_fair h).2; rw [hc] at this; cases this
  | some a => rw [← (cls_some.1 hc).2]; rfl

end Go.Proofs.YteibkechlkjpgabDoor.Fl
