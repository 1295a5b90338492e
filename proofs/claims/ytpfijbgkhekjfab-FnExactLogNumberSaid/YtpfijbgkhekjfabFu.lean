/-
  Lower bounds of float64 results, quotients up to 1, subtracting nothing, and the part behind the point. No program in sight; no condition.
-/
import Derived.Test.YtpfijbgkhekjfabFs
set_option linter.unusedVariables false
namespace Go.Proofs.Ytpfijbgkhekjfab.Fl
open Ieee

theorem cut_ge (neg : Bool) (n drop : Nat) : n / 2 ^ drop ≤ Toward.even.cut neg n drop := by
  by_cases hd : drop ≤ n.log2 + 2
  · rw [cut_low neg n drop hd]; omega
  · have h1 : n < 2 ^ (n.log2 + 1) := Nat.lt_log2_self
    have h2 : 2 ^ (n.log2 + 1) ≤ 2 ^ drop := Nat.pow_le_pow_right (by omega) (by omega)
    rw [Nat.div_eq_of_lt (by omega)]
    exact Nat.zero_le _

/-- Rounding to a float64: a magnitude from 2^(P - 1023) up. -/
theorem near_lower {neg : Bool} {m P : Nat} {e : Int} (hm : m ≠ 0) (h1 : 1 ≤ P) (h2 : P ≤ 2047) (h : (P : Int) - 1023 ≤ e + m.log2) : P * 2 ^ 52 ≤ near double neg m e := by
  unfold near
  rw [if_neg hm]
  have hf : (double.fractionBits : Int) = 52 := rfl
  have hb : double.binade = 2 ^ 52 := rfl
  have hi : double.infRung = 2047 * 2 ^ 52 := by decide
  have hlo : 2 ^ m.log2 ≤ m := Nat.log2_self_le hm
  rw [hf, least_double, hb, hi]
  generalize m.log2 = L at *
  have hmax : max (e + (L : Int) - 52) (-1074) = e + (L : Int) - 52 := by omega
  rw [hmax]
  have hk : 2 ^ 52 ≤ Toward.even.cut neg (m <<< (e - (e + (L : Int) - 52)).toNat) (e + (L : Int) - 52 - e).toNat := by
    refine Nat.le_trans ?_ (cut_ge neg _ _)
    rw [Nat.shiftLeft_eq, Nat.le_div_iff_mul_le (Nat.two_pow_pos _), ← Nat.pow_add]
    refine Nat.le_trans ?_ (Nat.mul_le_mul_right _ hlo)
    rw [← Nat.pow_add]
    exact Nat.pow_le_pow_right (by omega) (by omega)
  have hT : P - 1 ≤ (e + (L : Int) - 52 - -1074).toNat := by omega
  have hmul : (P - 1) * 2 ^ 52 ≤ (e + (L : Int) - 52 - -1074).toNat * 2 ^ 52 := Nat.mul_le_mul_right _ hT
  refine Nat.le_min.2 ⟨?_, Nat.mul_le_mul_right _ h2⟩
  obtain ⟨p', rfl⟩ : ∃ p', P = p' + 1 := ⟨P - 1, by omega⟩
  rw [Nat.add_sub_cancel] at hmul
  rw [Nat.add_mul, Nat.one_mul]
  exact Nat.add_le_add hmul hk

theorem log_lo {m p M : Nat} (h : 2 ^ M ≤ m * 2 ^ p) : m ≠ 0 ∧ M ≤ m.log2 + p := by
  have hm : m ≠ 0 := by
    intro c; rw [c, Nat.zero_mul] at h
    have := Nat.two_pow_pos M; omega
  refine ⟨hm, ?_⟩
  have l2 : m < 2 ^ (m.log2 + 1) := Nat.lt_log2_self
  have : 2 ^ M < 2 ^ (m.log2 + 1 + p) := by
    rw [Nat.pow_add]; exact Nat.lt_of_le_of_lt h (Nat.mul_lt_mul_of_pos_right l2 (Nat.two_pow_pos p))
  have := (Nat.pow_lt_pow_iff_right (a := 2) (by omega)).1 this
  omega

/-- A sum of two that are not negative, one of which is great. -/
theorem add_lo {x y : Option Nat} {P Q : Nat} (h1 : 1 ≤ P) (h2 : P ≤ 2045) (hQ : 1 ≤ Q) (hQ2 : Q ≤ 2047) (hx : Bd x P) (hy : Bd y P) (px : Pos x) (py : Pos y) (ly : Lo y Q) :
    Lo (fop .add .f64 x y) Q ∧ Pos (fop .add .f64 x y) := by
  cases x with
  | none => exact ⟨fun _ h => (by cases h), fun _ h => (by cases h)⟩
  | some a =>
    cases y with
    | none => exact ⟨fun _ h => (by cases h), fun _ h => (by cases h)⟩
    | some b =>
      obtain ⟨m, p, hm, hmv⟩ := bd_num h1 (by omega) (hx a rfl)
      obtain ⟨n, q, hn, hnv⟩ := bd_num h1 (by omega) (hy b rfl)
      have hnl := lo_num hQ (ly b rfl) hn
      have key : ∀ r, fop .add .f64 (some a) (some b) = some r → Q * 2 ^ 52 ≤ rung double r ∧ sgn double r = false := by
        intro r hr
        have h : ((double.read a).sum (double.read b)).map double.write = some r := hr
        rw [hm.read, hn.read, px a rfl, py b rfl] at h
        simp only [Datum.sum, Option.map_some, Option.some.injEq] at h
        rw [least_double] at h
        have hmin : min (-1074 + (p : Int)) (-1074 + (q : Int)) = -1074 + ((min p q : Nat) : Int) := by omega
        rw [hmin] at h
        have ep : (-1074 + (p : Int) - (-1074 + ((min p q : Nat) : Int))).toNat = p - min p q := by omega
        have eq : (-1074 + (q : Int) - (-1074 + ((min p q : Nat) : Int))).toNat = q - min p q := by omega
        rw [ep, eq] at h
        have hs : ∀ k j : Nat, signed false k j = ((k * 2 ^ j : Nat) : Int) := fun k j => by rw [signed_pm]; rfl
        rw [hs, hs] at h
        have hnz : 2 ^ (Q + 51) ≤ (m * 2 ^ (p - min p q) + n * 2 ^ (q - min p q)) * 2 ^ min p q := by
          have : n * 2 ^ (q - min p q) * 2 ^ min p q = n * 2 ^ q := by
            rw [Nat.mul_assoc, ← Nat.pow_add]; congr 2; omega
          rw [Nat.add_mul, this]
          omega
        obtain ⟨hN, hlog⟩ := log_lo hnz
        have etot : ((m * 2 ^ (p - min p q) : Nat) : Int) + ((n * 2 ^ (q - min p q) : Nat) : Int) = ((m * 2 ^ (p - min p q) + n * 2 ^ (q - min p q) : Nat) : Int) := by omega
        rw [etot] at h
        generalize m * 2 ^ (p - min p q) + n * 2 ^ (q - min p q) = N at *
        have hne : ¬ ((N : Int) = 0) := by omega
        have hnl2 : decide ((N : Int) < 0) = false := by simp
        rw [if_neg hne, hnl2] at h
        simp only [Int.natAbs_natCast] at h
        rw [← h]
        show Q * 2 ^ 52 ≤ rung double (double.nearest false N _) ∧ sgn double (double.nearest false N _) = false
        rw [rung_nearest, sgn_nearest]
        exact ⟨near_lower hN hQ hQ2 (by omega), rfl⟩
      exact ⟨fun r hr => (key r hr).1, fun r hr => (key r hr).2⟩

/-- A square is not negative. -/
theorem pos_square (x : Option Nat) : Pos (fop .mul .f64 x x) := by
  intro r hr
  cases x with
  | none => cases hr
  | some a =>
    have h : ((double.read a).product (double.read a)).map double.write = some r := hr
    cases hd : double.read a with
    | nan s t => rw [hd] at h; cases h
    | infinity s =>
      rw [hd] at h
      simp only [Datum.product, Option.map_some, Option.some.injEq, Bool.xor_self] at h
      rw [← h]; exact sgn_word double false double.infRung_lt
    | number s m e =>
      rw [hd] at h
      simp only [Datum.product, Option.map_some, Option.some.injEq, Bool.xor_self] at h
      rw [← h]; exact sgn_nearest double false _ _

theorem pos_sqrt {x : Option Nat} {P Q : Nat} (h1 : 1 ≤ P) (h2 : P ≤ 2046) (hx : Bd x P) (hQ : 1 ≤ Q) (lx : Lo x Q) : Pos (fsqrt x) := by
  intro r hr
  cases x with
  | none => cases hr
  | some a =>
    obtain ⟨m, p, hm, hmv⟩ := bd_num h1 h2 (hx a rfl)
    have hl := lo_num hQ (lx a rfl) hm
    have hm0 := (log_lo hl).1
    have h : ((double.read a).root (double.fractionBits + 2)).map double.write = some r := hr
    rw [hm.read] at h
    simp only [Datum.root] at h
    rw [if_neg hm0] at h
    by_cases hs : sgn double a = true
    · rw [if_pos hs] at h; cases h
    · rw [if_neg hs] at h
      simp only [Option.map_some, Option.some.injEq] at h
      rw [← h]; exact sgn_nearest double false _ _

/-- A quotient of the smaller by the greater. -/
theorem quo_one {a b : Nat} (ha : rung double a ≤ rung double b) (hb : rung double b ≤ 2046 * 2 ^ 52) (h0 : rung double b ≠ 0) : Bd (fop .quo .f64 (some a) (some b)) 1023 := by
  intro r hr
  obtain ⟨m, p, hm, hmv⟩ := bd_num (b := a) (by omega) (by omega) (Nat.le_trans ha hb)
  obtain ⟨n, q, hn, hnv⟩ := bd_num (b := b) (by omega) (by omega) hb
  have hle : m * 2 ^ p ≤ n * 2 ^ q := by rw [hm.val, hn.val]; exact (sv_le_iff double _ _).2 ha
  have hn0 : n ≠ 0 := by
    intro c
    have := hn.val
    rw [c, Nat.zero_mul, ← sv_zero double] at this
    exact h0 (sv_inj double this).symm
  have h : ((double.read a).quotient (double.fractionBits + 2) (double.read b)).map double.write = some r := hr
  rw [hm.read, hn.read] at h
  have h54 : double.fractionBits + 2 = 54 := rfl
  simp only [Datum.quotient, hn0, if_false, Option.map_some, Option.some.injEq, h54] at h
  rw [← h]
  refine bd_write (d := .infinity false) (by omega) _ _ _ ?_
  rw [least_double]
  by_cases hm0 : m = 0
  · left
    subst hm0
    simp
  · right
    generalize hmore : 54 + n.log2 - m.log2 = more
    have l1 : 2 ^ m.log2 ≤ m := Nat.log2_self_le hm0
    have l2 : n < 2 ^ (n.log2 + 1) := Nat.lt_log2_self
    have l3 : m.log2 + p < n.log2 + 1 + q := by
      have : 2 ^ (m.log2 + p) < 2 ^ (n.log2 + 1 + q) := by
        rw [Nat.pow_add, Nat.pow_add 2 (n.log2 + 1)]
        exact Nat.lt_of_le_of_lt (Nat.le_trans (Nat.mul_le_mul_right _ l1) hle) (Nat.mul_lt_mul_of_pos_right l2 (Nat.two_pow_pos q))
      exact (Nat.pow_lt_pow_iff_right (by omega)).1 this
    obtain ⟨E, hE⟩ : ∃ E : Nat, E + p = q + more := ⟨q + more - p, by omega⟩
    have key : m * 2 ^ more ≤ n * 2 ^ E := by
      have k : m * 2 ^ more * 2 ^ p ≤ n * 2 ^ E * 2 ^ p := by
        have e1 : m * 2 ^ more * 2 ^ p = m * 2 ^ p * 2 ^ more := by rw [Nat.mul_assoc, Nat.mul_assoc, Nat.mul_comm (2 ^ more)]
        have e2 : n * 2 ^ E * 2 ^ p = n * 2 ^ q * 2 ^ more := by rw [Nat.mul_assoc, Nat.mul_assoc, ← Nat.pow_add, ← Nat.pow_add, hE]
        rw [e1, e2]
        exact Nat.mul_le_mul_right _ hle
      exact Nat.le_of_mul_le_mul_right k (Nat.two_pow_pos _)
    rw [Nat.shiftLeft_eq]
    refine ⟨by omega, ?_⟩
    have e : (((1023 : Nat) : Int) - 1023 - (-1074 + (p : Int) - (-1074 + (q : Int)) - (more : Int) - 1)).toNat = E + 1 := by omega
    rw [e, Nat.pow_succ]
    have hdm := Nat.div_add_mod (m * 2 ^ more) n
    have hq : m * 2 ^ more / n ≤ 2 ^ E := Nat.div_le_of_le_mul key
    by_cases hrem : m * 2 ^ more % n = 0
    · rw [hrem]; simp; omega
    · have hlt : m * 2 ^ more / n < 2 ^ E := by
        refine Nat.lt_of_le_of_ne hq fun c => ?_
        rw [c] at hdm
        omega
      have hb : (m * 2 ^ more % n != 0).toNat ≤ 1 := by cases (m * 2 ^ more % n != 0) <;> simp
      omega

/-- A number of the format, as its parts, is written back as itself. -/
theorem write_num {b m p : Nat} {s : Bool} (hb : b < 2 ^ 64) (hn : Num double b s m p) {k : Nat} (e : Int) (he : e ≤ -1074 + (p : Int)) (hk : k = m * 2 ^ (-1074 + (p : Int) - e).toNat) (h1074 : -1074 ≤ e) (hfin : rung double b ≤ double.infRung) :
    double.nearest s k e = b := by
  have hw := word_eq double hb
  rw [nearest_word]
  have : near double s k e = rung double b := by
    by_cases hm : m = 0
    · have hv := hn.val
      rw [hm, Nat.zero_mul] at hk
      rw [hm, Nat.zero_mul, ← sv_zero double] at hv
      unfold near
      rw [hk, if_pos rfl]
      exact sv_inj double hv
    · refine near_exact double s k e (rung double b) hfin ?_ ?_
      · rw [hk]
        have := Nat.two_pow_pos (-1074 + (p : Int) - e).toNat
        exact Nat.mul_ne_zero hm (by omega)
      · rw [least_double, ← hn.val, hk, show (-1074 - e).toNat = 0 by omega, Nat.pow_zero, Nat.mul_one, Nat.mul_assoc, ← Nat.pow_add]
        congr 2
        omega
  rw [this, hn.sign, hw]

/-- y - 0 = y, of a finite y, its sign and all. -/
theorem sub_zero {b : Nat} (hb : b < 2 ^ 64) (hf : rung double b < double.infRung) : fop .sub .f64 (some b) (some 0) = some b := by
  obtain ⟨m, p, hn⟩ := read_num double hf
  have h0 : double.read 0 = .number false 0 (-1074) := by decide +kernel
  show ((double.read b).sum (double.read 0).opposite).map double.write = some b
  rw [hn.read, h0, least_double]
  simp only [Datum.opposite, Datum.sum, Option.map_some]
  have hmin : min (-1074 + (p : Int)) (-1074) = -1074 := by omega
  rw [hmin]
  have e1 : (-1074 + (p : Int) - -1074).toNat = p := by omega
  have e2 : ((-1074 : Int) - -1074).toNat = 0 := by omega
  rw [e1, e2]
  have e3 : signed (!false) 0 0 = 0 := rfl
  rw [e3, Int.add_zero, natAbs_signed]
  have hneg : (if signed (sgn double b) m p = 0 then (sgn double b && !false) else decide (signed (sgn double b) m p < 0)) = sgn double b := by
    rw [signed_pm]
    have hpp := Nat.two_pow_pos p
    by_cases hm : m = 0
    · subst hm
      unfold pm
      cases sgn double b <;> simp
    · have : 0 < m * 2 ^ p := Nat.mul_pos (by omega) hpp
      have hI : (0 : Int) < (m : Int) * 2 ^ p := by exact_mod_cast this
      unfold pm
      cases sgn double b
      · simp; omega
      · simp; omega
  rw [hneg]
  congr 1
  exact write_num hb hn (-1074) (by omega) (by rw [show (-1074 + (p : Int) - -1074).toNat = p by omega]) (by omega) (by omega)

end Go.Proofs.Ytpfijbgkhekjfab.Fl
