/-
  How great the results of float64 operations can be: bounds by powers of two; and that a small float64 fits a float32. No program in sight; no condition.
-/
import Derived.Test.YtpfijbgkhekjfaaFb
set_option linter.unusedVariables false
namespace Go.Proofs.Ytpfijbgkhekjfaa.Fl
open Ieee

/-- |x| ≤ 2^(P - 1023), or a NaN. -/
def Bd (c : Option Nat) (P : Nat) : Prop := ∀ b, c = some b → rung double b ≤ P * 2 ^ 52

/-- |x| ≥ 2^(P - 1023), or a NaN. -/
def Lo (c : Option Nat) (P : Nat) : Prop := ∀ b, c = some b → P * 2 ^ 52 ≤ rung double b

/-- Not negative (a zero or greater, an infinity), or a NaN. -/
def Pos (c : Option Nat) : Prop := ∀ b, c = some b → sgn double b = false

theorem Bd.mono {c : Option Nat} {P Q : Nat} (h : Bd c P) (hPQ : P ≤ Q) : Bd c Q := fun b hb => Nat.le_trans (h b hb) (Nat.mul_le_mul_right _ hPQ)
theorem Bd.none (P : Nat) : Bd none P := fun _ h => by cases h
theorem Lo.mono {c : Option Nat} {P Q : Nat} (h : Lo c P) (hPQ : Q ≤ P) : Lo c Q := fun b hb => Nat.le_trans (Nat.mul_le_mul_right _ hPQ) (h b hb)

theorem sv_binade (P : Nat) (hP : 1 ≤ P) : sv double (P * 2 ^ 52) = 2 ^ (P + 51) := by
  have e : double.binade = 2 ^ 52 := rfl
  unfold sv
  rw [e, if_neg (by omega), Nat.mul_mod_left, Nat.mul_div_cancel _ (by omega), Nat.add_zero, ← Nat.pow_add]
  congr 1
  omega

/-- A bounded word is a number; what its magnitude is. -/
theorem bd_num {b P : Nat} (h1 : 1 ≤ P) (h2 : P ≤ 2046) (h : rung double b ≤ P * 2 ^ 52) : ∃ m p, Num double b (sgn double b) m p ∧ m * 2 ^ p ≤ 2 ^ (P + 51) := by
  have hi : double.infRung = 9218868437227405312 := by decide
  obtain ⟨m, p, hn⟩ := read_num double (b := b) (by rw [hi]; omega)
  refine ⟨m, p, hn, ?_⟩
  rw [hn.val, ← sv_binade P h1]
  exact (sv_le_iff double _ _).2 h

theorem lo_num {b m p P : Nat} {s : Bool} (h1 : 1 ≤ P) (h : P * 2 ^ 52 ≤ rung double b) (hn : Num double b s m p) : 2 ^ (P + 51) ≤ m * 2 ^ p := by
  rw [hn.val, ← sv_binade P h1]
  exact (sv_le_iff double _ _).2 h

theorem place_le {m p M : Nat} (hm : m ≠ 0) (h : m * 2 ^ p ≤ 2 ^ M) : p ≤ M := by
  have h1 : 2 ^ p ≤ m * 2 ^ p := Nat.le_mul_of_pos_left _ (by omega)
  exact (Nat.pow_le_pow_iff_right (by omega)).1 (Nat.le_trans h1 h)

theorem mag_le {m p M : Nat} (hm : m ≠ 0) (h : m * 2 ^ p ≤ 2 ^ M) : m ≤ 2 ^ (M - p) := by
  have hp := place_le hm h
  have e : 2 ^ M = 2 ^ (M - p) * 2 ^ p := by rw [← Nat.pow_add]; congr 1; omega
  rw [e] at h
  exact Nat.le_of_mul_le_mul_right h (Nat.two_pow_pos p)

theorem shift_le {m p k M : Nat} (hk : k ≤ p) (hM : k ≤ M) (h : m * 2 ^ p ≤ 2 ^ M) : m * 2 ^ (p - k) ≤ 2 ^ (M - k) := by
  have e1 : m * 2 ^ p = m * 2 ^ (p - k) * 2 ^ k := by rw [Nat.mul_assoc, ← Nat.pow_add]; congr 2; omega
  have e2 : 2 ^ M = 2 ^ (M - k) * 2 ^ k := by rw [← Nat.pow_add]; congr 1; omega
  rw [e1, e2] at h
  exact Nat.le_of_mul_le_mul_right h (Nat.two_pow_pos k)

theorem least_double : double.leastPlace = -1074 := by decide
theorem least_single : single.leastPlace = -149 := by decide

theorem lt_split {a n c N : Nat} (hN : N = n + c) (h : a < 2 ^ n) : a * 2 ^ c < 2 ^ N := by
  subst hN
  rw [Nat.pow_add]
  exact Nat.mul_lt_mul_of_pos_right h (Nat.two_pow_pos c)

/-- Rounding to a float64: a magnitude up to 2^(P - 1023). -/
theorem near_double {neg : Bool} {m P : Nat} {e : Int} (hP : 2 ≤ P) (h : m = 0 ∨ (e ≤ (P : Int) - 1023 ∧ m ≤ 2 ^ ((P : Int) - 1023 - e).toNat)) : near double neg m e ≤ P * 2 ^ 52 := by
  rcases h with rfl | ⟨h1, h2⟩
  · unfold near; rw [if_pos rfl]; exact Nat.zero_le _
  · have hf : (double.fractionBits : Int) = 52 := rfl
    exact near_bound double neg m e ((P : Int) - 1023) P (by rw [least_double, hf]; omega) hP h1 h2

theorem bd_write {d : Datum} {P : Nat} (hP : 2 ≤ P) (s : Bool) (m : Nat) (e : Int) (h : m = 0 ∨ (e ≤ (P : Int) - 1023 ∧ m ≤ 2 ^ ((P : Int) - 1023 - e).toNat)) :
    rung double (double.write (.number s m e)) ≤ P * 2 ^ 52 := by
  show rung double (double.nearest s m e) ≤ _
  rw [rung_nearest]
  exact near_double hP h

theorem natAbs_signed (s : Bool) (m p : Nat) : (signed s m p).natAbs = m * 2 ^ p := by
  rw [signed_pm]; unfold pm; cases s <;> simp [Int.natAbs_mul, Int.natAbs_pow]

/-! ### sums -/
theorem bd_sum {x y r P : Nat} (h1 : 1 ≤ P) (h2 : P ≤ 2045) (hx : rung double x ≤ P * 2 ^ 52) (hy : rung double y ≤ P * 2 ^ 52) (flip : Bool)
    (h : (((double.read x).sum (if flip then (double.read y).opposite else double.read y)).map double.write) = some r) : rung double r ≤ (P + 1) * 2 ^ 52 := by
  obtain ⟨m, p, hm, hmv⟩ := bd_num h1 (by omega) hx
  obtain ⟨n, q, hn, hnv⟩ := bd_num h1 (by omega) hy
  obtain ⟨t, ht⟩ : ∃ t, (if flip then (double.read y).opposite else double.read y) = .number t n (double.leastPlace + (q : Int)) := by
    rw [hn.read]; cases flip
    · exact ⟨_, rfl⟩
    · exact ⟨_, rfl⟩
  rw [ht, hm.read] at h
  simp only [Datum.sum, Option.map_some, Option.some.injEq] at h
  rw [← h]
  refine bd_write (d := .infinity false) (by omega) _ _ _ ?_
  rw [least_double]
  have hmin : min (-1074 + (p : Int)) (-1074 + (q : Int)) = -1074 + ((min p q : Nat) : Int) := by omega
  rw [hmin]
  have ep : (-1074 + (p : Int) - (-1074 + ((min p q : Nat) : Int))).toNat = p - min p q := by omega
  have eq : (-1074 + (q : Int) - (-1074 + ((min p q : Nat) : Int))).toNat = q - min p q := by omega
  rw [ep, eq]
  have habs : (signed (sgn double x) m (p - min p q) + signed t n (q - min p q)).natAbs ≤ m * 2 ^ (p - min p q) + n * 2 ^ (q - min p q) := by
    have := Int.natAbs_add_le (signed (sgn double x) m (p - min p q)) (signed t n (q - min p q))
    rw [natAbs_signed, natAbs_signed] at this
    exact this
  generalize (signed (sgn double x) m (p - min p q) + signed t n (q - min p q)).natAbs = N at *
  by_cases hz : m = 0 ∧ n = 0
  · obtain ⟨rfl, rfl⟩ := hz
    left
    simp at habs
    exact habs
  · right
    have hk : min p q ≤ P + 51 := by
      by_cases c : m = 0
      · have := place_le (show n ≠ 0 by omega) hnv; omega
      · have := place_le c hmv; omega
    refine ⟨by omega, ?_⟩
    have a := shift_le (show min p q ≤ p by omega) hk hmv
    have b := shift_le (show min p q ≤ q by omega) hk hnv
    have e : (((P + 1 : Nat) : Int) - 1023 - (-1074 + ((min p q : Nat) : Int))).toNat = (P + 51 - min p q) + 1 := by omega
    rw [e, Nat.pow_succ]
    omega

theorem Bd.add {x y : Option Nat} {P : Nat} (h1 : 1 ≤ P) (h2 : P ≤ 2045) (hx : Bd x P) (hy : Bd y P) : Bd (fop .add .f64 x y) (P + 1) := by
  intro r hr
  cases x with
  | none => cases hr
  | some a =>
    cases y with
    | none => cases hr
    | some b => exact bd_sum h1 h2 (hx a rfl) (hy b rfl) false hr

theorem Bd.sub {x y : Option Nat} {P : Nat} (h1 : 1 ≤ P) (h2 : P ≤ 2045) (hx : Bd x P) (hy : Bd y P) : Bd (fop .sub .f64 x y) (P + 1) := by
  intro r hr
  cases x with
  | none => cases hr
  | some a =>
    cases y with
    | none => cases hr
    | some b => exact bd_sum h1 h2 (hx a rfl) (hy b rfl) true hr

/-! ### products -/
theorem Bd.mul {x y : Option Nat} {P Q R : Nat} (h1 : 1 ≤ P) (h2 : P ≤ 2046) (h3 : 1 ≤ Q) (h4 : Q ≤ 2046) (hR : R + 1023 = P + Q) (hR2 : 2 ≤ R) (hx : Bd x P) (hy : Bd y Q) : Bd (fop .mul .f64 x y) R := by
  intro r hr
  cases x with
  | none => cases hr
  | some a =>
    cases y with
    | none => cases hr
    | some b =>
      obtain ⟨m, p, hm, hmv⟩ := bd_num h1 h2 (hx a rfl)
      obtain ⟨n, q, hn, hnv⟩ := bd_num h3 h4 (hy b rfl)
      have h : ((double.read a).product (double.read b)).map double.write = some r := hr
      rw [hm.read, hn.read] at h
      simp only [Datum.product, Option.map_some, Option.some.injEq] at h
      rw [← h]
      refine bd_write (d := .infinity false) hR2 _ _ _ ?_
      rw [least_double]
      by_cases hz : m * n = 0
      · exact .inl hz
      · right
        have hm0 : m ≠ 0 := fun c => hz (by rw [c, Nat.zero_mul])
        have hn0 : n ≠ 0 := fun c => hz (by rw [c, Nat.mul_zero])
        have a1 := place_le hm0 hmv
        have a2 := place_le hn0 hnv
        have b1 := mag_le hm0 hmv
        have b2 := mag_le hn0 hnv
        refine ⟨by omega, ?_⟩
        have e : ((R : Int) - 1023 - (-1074 + (p : Int) + (-1074 + (q : Int)))).toNat = (P + 51 - p) + (Q + 51 - q) := by omega
        rw [e, Nat.pow_add]
        exact Nat.mul_le_mul b1 b2

/-! ### quotients -/
theorem Bd.quo {x y : Option Nat} {P Q R : Nat} (h1 : 1 ≤ P) (h2 : P ≤ 2046) (h3 : 1 ≤ Q) (hR : R + Q = P + 1023) (hR2 : 2 ≤ R) (hx : Bd x P) (hy : Lo y Q) (hyB : Bd y 2046) : Bd (fop .quo .f64 x y) R := by
  intro r hr
  cases x with
  | none => cases hr
  | some a =>
    cases y with
    | none => cases hr
    | some b =>
      obtain ⟨m, p, hm, hmv⟩ := bd_num h1 h2 (hx a rfl)
      obtain ⟨n, q, hn, _⟩ := bd_num (by omega) (by omega) (hyB b rfl)
      have hnv := lo_num h3 (hy b rfl) hn
      have h : ((double.read a).quotient (double.fractionBits + 2) (double.read b)).map double.write = some r := hr
      have hn0 : n ≠ 0 := by
        intro c; rw [c, Nat.zero_mul] at hnv
        have := Nat.two_pow_pos (Q + 51); omega
      rw [hm.read, hn.read] at h
      have h54 : double.fractionBits + 2 = 54 := rfl
      simp only [Datum.quotient, hn0, if_false, Option.map_some, Option.some.injEq, h54] at h
      rw [← h]
      refine bd_write (d := .infinity false) hR2 _ _ _ ?_
      rw [least_double]
      by_cases hm0 : m = 0
      · left
        subst hm0
        simp
      · right
        generalize hmore : 54 + n.log2 - m.log2 = more
        have l1 : 2 ^ m.log2 ≤ m := Nat.log2_self_le hm0
        have l2 : n < 2 ^ (n.log2 + 1) := Nat.lt_log2_self
        have l3 : m.log2 + p ≤ P + 51 := by
          have : 2 ^ (m.log2 + p) ≤ 2 ^ (P + 51) := by
            rw [Nat.pow_add]; exact Nat.le_trans (Nat.mul_le_mul_right _ l1) hmv
          exact (Nat.pow_le_pow_iff_right (by omega)).1 this
        have l4 : Q + 51 < n.log2 + 1 + q := by
          have : 2 ^ (Q + 51) < 2 ^ (n.log2 + 1 + q) := by
            rw [Nat.pow_add 2 (n.log2 + 1) q]; exact Nat.lt_of_le_of_lt hnv (Nat.mul_lt_mul_of_pos_right l2 (Nat.two_pow_pos q))
          exact (Nat.pow_lt_pow_iff_right (by omega)).1 this
        obtain ⟨E, hE⟩ : ∃ E : Nat, E + Q + p = P + q + more := ⟨P + q + more - Q - p, by omega⟩
        have key : m * 2 ^ more ≤ n * 2 ^ E := by
          have k1 : m * 2 ^ more * 2 ^ (p + Q) ≤ 2 ^ (P + 51 + more + Q) := by
            have : m * 2 ^ more * 2 ^ (p + Q) = m * 2 ^ p * 2 ^ (more + Q) := by
              rw [Nat.mul_assoc, Nat.mul_assoc, ← Nat.pow_add, ← Nat.pow_add]; congr 2; omega
            rw [this, show P + 51 + more + Q = P + 51 + (more + Q) by omega, Nat.pow_add 2 (P + 51)]
            exact Nat.mul_le_mul_right _ hmv
          have k2 : 2 ^ (P + 51 + more + Q) ≤ n * 2 ^ E * 2 ^ (p + Q) := by
            have : n * 2 ^ E * 2 ^ (p + Q) = n * 2 ^ q * 2 ^ (P + more) := by
              rw [Nat.mul_assoc, Nat.mul_assoc, ← Nat.pow_add, ← Nat.pow_add]; congr 2; omega
            rw [this, show P + 51 + more + Q = Q + 51 + (P + more) by omega, Nat.pow_add 2 (Q + 51)]
            exact Nat.mul_le_mul_right _ hnv
          exact Nat.le_of_mul_le_mul_right (Nat.le_trans k1 k2) (Nat.two_pow_pos _)
        rw [Nat.shiftLeft_eq]
        refine ⟨by omega, ?_⟩
        have e : ((R : Int) - 1023 - (-1074 + (p : Int) - (-1074 + (q : Int)) - (more : Int) - 1)).toNat = E + 1 := by omega
        rw [e, Nat.pow_succ]
        have hdm := Nat.div_add_mod (m * 2 ^ more) n
        have hq : m * 2 ^ more / n ≤ 2 ^ E := Nat.div_le_of_le_mul key
        by_cases hrem : m * 2 ^ more % n = 0
        · rw [hrem]; simp; omega
        · have hlt : m * 2 ^ more / n < 2 ^ E := by
            refine Nat.lt_of_le_of_ne hq fun c => ?_
            rw [c] at hdm
            omega
          have hb : (m * 2 ^ more % n != 0).toNat ≤ 1 := by cases (m * 2 ^ more % n != 0) <;> simp
          omega

/-! ### what fits a float32 -/
theorem fits_narrow {c : Option Nat} {P : Nat} (hP : P ≤ 1150) (h : Bd c P) : Fits .f64 .f32 c := by
  have h' : Bd c 1150 := h.mono hP
  intro b hb
  obtain ⟨m, p, hn, hv⟩ := bd_num (by omega) (by omega) (h' b hb)
  unfold floatToFloatBits
  rw [if_neg (by decide)]
  have e : FloatKind.f64.decode b = .number (sgn double b) m (double.leastPlace + (p : Int)) := hn.read
  rw [e]
  simp only
  have hnear : near single (sgn double b) m (double.leastPlace + (p : Int)) ≤ 254 * 2 ^ 23 := by
    by_cases hm : m = 0
    · unfold near; rw [if_pos hm]; exact Nat.zero_le _
    · have hf : (single.fractionBits : Int) = 23 := rfl
      have a1 := place_le hm hv
      have a2 := mag_le hm hv
      have := near_bound single (sgn double b) m (double.leastPlace + (p : Int)) 127 254 (by rw [least_single, hf]; omega) (by omega) (by rw [least_double]; omega)
        (by rw [least_double, show ((127 : Int) - (-1074 + (p : Int))).toNat = 1150 + 51 - p by omega]; exact a2)
      exact this
  have hninf : (FloatKind.f32.decode (FloatKind.f32.encode (.number (sgn double b) m (double.leastPlace + (p : Int))))).isInfinity = false := by
    show (single.read (single.nearest _ _ _)).isInfinity = false
    have hi : single.infRung = 2139095040 := by decide
    rw [isInf_iff single (bb .f32), rung_nearest, hi]
    simp
    omega
  rw [if_neg (by rw [hninf]; simp)]
  simp

theorem fits_inf (s : Bool) : Fits .f64 .f32 (some (double.word s double.infRung)) := by
  intro b hb
  cases s <;> cases hb <;> decide +kernel

/-! ### roots -/
theorem rootFrom_sq (n : Nat) : ∀ (todo root : Nat), root * root ≤ n → Datum.rootFrom n todo root * Datum.rootFrom n todo root ≤ n
  | 0, root, h => h
  | todo + 1, root, h => by
    unfold Datum.rootFrom
    simp only
    split
    · rename_i c; exact rootFrom_sq n todo _ c
    · exact rootFrom_sq n todo root h

theorem Bd.sqrt {x : Option Nat} {P R : Nat} (h1 : 1 ≤ P) (h2 : P ≤ 2046) (hR : P + 1023 ≤ 2 * R) (hx : Bd x P) : Bd (fsqrt x) R := by
  intro r hr
  cases x with
  | none => cases hr
  | some a =>
    obtain ⟨m, p, hm, hmv⟩ := bd_num h1 h2 (hx a rfl)
    have h : ((double.read a).root (double.fractionBits + 2)).map double.write = some r := hr
    rw [hm.read] at h
    have h54 : double.fractionBits + 2 = 54 := rfl
    simp only [Datum.root, h54] at h
    by_cases hm0 : m = 0
    · rw [if_pos hm0] at h
      simp only [Option.map_some, Option.some.injEq] at h
      rw [← h, hm0]
      exact bd_write (d := .infinity false) (by omega) _ _ _ (.inl rfl)
    · rw [if_neg hm0] at h
      by_cases hs : sgn double a = true
      · rw [if_pos hs] at h; cases h
      · rw [if_neg hs] at h
        simp only [Option.map_some, Option.some.injEq] at h
        rw [least_double] at h
        generalize hmore0 : (2 * 54 - m.log2) = more0 at h
        generalize hmore : more0 + (((-1074 + (p : Int)) - (more0 : Int)) % 2).toNat = more at h
        have heven : ∃ g : Int, -1074 + (p : Int) - (more : Int) = 2 * g := ⟨(-1074 + (p : Int) - (more : Int)) / 2, by omega⟩
        obtain ⟨g, hg⟩ := heven
        rw [← h]
        refine bd_write (d := .infinity false) (by omega) _ _ _ ?_
        rw [Nat.shiftLeft_eq]
        have hsq := rootFrom_sq (m * 2 ^ more) ((m * 2 ^ more).log2 / 2 + 1) 0 (Nat.zero_le _)
        generalize Datum.rootFrom (m * 2 ^ more) ((m * 2 ^ more).log2 / 2 + 1) 0 = w at *
        have a1 := place_le hm0 hmv
        have a2 := mag_le hm0 hmv
        have hN : m * 2 ^ more ≤ 2 ^ (P + 51 - p + more) := by rw [Nat.pow_add]; exact Nat.mul_le_mul_right _ a2
        obtain ⟨T, hT⟩ : ∃ T : Nat, (T : Int) = (R : Int) - 1023 - g := ⟨((R : Int) - 1023 - g).toNat, by omega⟩
        have hN2 : m * 2 ^ more ≤ 2 ^ T * 2 ^ T := by
          rw [← Nat.pow_add]
          exact Nat.le_trans hN (Nat.pow_le_pow_right (by omega) (by omega))
        have hw : w ≤ 2 ^ T := by
          refine Nat.le_of_not_lt fun c => ?_
          have := Nat.mul_lt_mul_of_lt_of_lt c c
          omega
        right
        have hg2 : (-1074 + (p : Int) - (more : Int)) / 2 = g := by omega
        rw [hg2]
        refine ⟨by omega, ?_⟩
        have e : ((R : Int) - 1023 - (g - 1)).toNat = T + 1 := by omega
        rw [e, Nat.pow_succ]
        by_cases c : w = 2 ^ T
        · have : w * w = m * 2 ^ more := by
            rw [c] at hsq ⊢
            omega
          rw [this]
          simp
          omega
        · have hb : (w * w != m * 2 ^ more).toNat ≤ 1 := by cases (w * w != m * 2 ^ more) <;> simp
          omega

end Go.Proofs.Ytpfijbgkhekjfaa.Fl
