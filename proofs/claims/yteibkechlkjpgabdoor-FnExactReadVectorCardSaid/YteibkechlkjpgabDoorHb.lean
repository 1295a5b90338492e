/-
  Eight hexadecimal digits: plain facts. No program.
-/
import Derived.Test.YteibkechlkjpgabDoorHa
import Derived.Lib.ParseIntB
set_option linter.unusedVariables false
namespace Go.Proofs.YteibkechlkjpgabDoor
open Go.RowKit

/-- Just k digits. -/
def hexN : Nat → Nat → List UInt8
  | 0, _ => []
  | k + 1, n => hexN k (n / 16) ++ [hexB (n % 16)]
theorem hexN_length : ∀ k n, (hexN k n).length = k
  | 0, _ => rfl
  | k + 1, n => by rw [hexN, List.length_append, hexN_length]; rfl
theorem hexN_zero : ∀ k, hexN k 0 = List.replicate k 48
  | 0 => rfl
  | k + 1 => by rw [hexN, hexN_zero k, List.replicate_succ']; rfl
theorem hex_pad : ∀ (k u : Nat), u < 16 ^ (k + 1) → List.replicate (k + 1 - (hexDigits u).length) 48 ++ hexDigits u = hexN (k + 1) u
  | 0, u, h => by
    have c : u < 16 := by simpa using h
    rw [hex_small c, hexN, hexN, Nat.mod_eq_of_lt c]; rfl
  | k + 1, u, h => by
    by_cases c : u < 16
    · rw [hex_small c, hexN, Nat.div_eq_of_lt c, hexN_zero, Nat.mod_eq_of_lt c]; rfl
    · have ih := hex_pad k (u / 16) (by rw [Nat.pow_succ] at h; omega)
      rw [hex_big c, hexN, ← ih, List.length_append, ← List.append_assoc]
      congr 3
      simp
theorem hex8_eq {u : Nat} (h : u < 4294967296) : List.replicate (8 - (hexDigits u).length) 48 ++ hexDigits u = hexN 8 u := hex_pad 7 u (by omega)

/-- A lower-case digit's value. -/
def lowVal (c : UInt8) : Option Nat := if 48 ≤ c.toNat ∧ c.toNat ≤ 57 then some (c.toNat - 48) else if 97 ≤ c.toNat ∧ c.toNat ≤ 102 then some (c.toNat - 87) else none
theorem hexB_toNat {d : Nat} (h : d < 16) : (hexB d).toNat = if d < 10 then 48 + d else 87 + d := by
  unfold hexB; rw [UInt8.toNat_ofNat']; exact Nat.mod_eq_of_lt (by split <;> omega)
theorem low_hexB {d : Nat} (h : d < 16) : lowVal (hexB d) = some d := by
  unfold lowVal; rw [hexB_toNat h]
  by_cases c : d < 10
  · rw [if_pos c, if_pos (by omega)]; congr 1; omega
  · rw [if_neg c, if_neg (by omega), if_pos (by omega)]; congr 1; omega
theorem low_lt {c : UInt8} {d : Nat} (h : lowVal c = some d) : d < 16 ∧ c = hexB d := by
  unfold lowVal at h
  split at h
  · cases h
    refine ⟨by omega, UInt8.toNat_inj.1 ?_⟩
    rw [hexB_toNat (by omega), if_pos (by omega)]; omega
  · split at h
    · cases h
      refine ⟨by omega, UInt8.toNat_inj.1 ?_⟩
      rw [hexB_toNat (by omega), if_neg (by omega)]; omega
    · cases h

/-- The reference's fold. -/
def lowF : Nat → List UInt8 → Option Nat
  | n, [] => some n
  | n, c :: r => match lowVal c with
    | none => none
    | some d => lowF (16 * n + d) r
theorem lowF_nil (n : Nat) : lowF n [] = some n := rfl
theorem lowF_cons (n : Nat) (c : UInt8) (r : List UInt8) : lowF n (c :: r) = (lowVal c).bind fun d => lowF (16 * n + d) r := by
  rw [lowF]; cases lowVal c <;> rfl
theorem lowF_append : ∀ (a b : List UInt8) (n : Nat), lowF n (a ++ b) = (lowF n a).bind fun m => lowF m b
  | [], b, n => rfl
  | c :: r, b, n => by
    rw [List.cons_append, lowF_cons, lowF_cons]
    cases lowVal c with
    | none => rfl
    | some d => exact lowF_append r b _
theorem lowF_hexN : ∀ (k n m : Nat), n < 16 ^ k → lowF m (hexN k n) = some (16 ^ k * m + n)
  | 0, n, m, h => by
    have : n = 0 := by simpa using h
    subst this; simp [hexN, lowF]
  | k + 1, n, m, h => by
    rw [hexN, lowF_append, lowF_hexN k (n / 16) m (by rw [Nat.pow_succ] at h; omega)]
    have hd : n % 16 < 16 := Nat.mod_lt _ (by decide)
    show lowF (16 ^ k * m + n / 16) [hexB (n % 16)] = _
    rw [lowF_cons, low_hexB hd]
    show some (16 * (16 ^ k * m + n / 16) + n % 16) = _
    congr 1
    rw [Nat.pow_succ, Nat.mul_add, Nat.mul_right_comm, ← Nat.mul_assoc, Nat.mul_comm 16 (16 ^ k)]
    have := Nat.div_add_mod n 16
    have e : 16 ^ k * 16 * m = 16 ^ k * m * 16 := Nat.mul_right_comm _ _ _
    omega
theorem hexN_of_lowF : ∀ (k : Nat) (l : List UInt8) (n m : Nat), l.length = k → lowF m l = some n → l = hexN k (n - 16 ^ k * m) ∧ 16 ^ k * m ≤ n ∧ n < 16 ^ k * (m + 1)
  | 0, l, n, m, hl, h => by
    obtain rfl := List.length_eq_zero_iff.1 hl
    cases h; simp [hexN]
  | k + 1, l, n, m, hl, h => by
    have hne : l ≠ [] := by intro e; subst e; cases hl
    obtain ⟨a, c, rfl⟩ : ∃ a c, l = a ++ [c] := ⟨l.dropLast, l.getLast hne, (List.dropLast_concat_getLast hne).symm⟩
    have hla : a.length = k := by simpa using hl
    rw [lowF_append] at h
    cases ha : lowF m a with
    | none => rw [ha] at h; cases h
    | some p =>
      rw [ha] at h
      have h2 : lowF p [c] = some n := h
      rw [lowF_cons] at h2
      cases hc : lowVal c with
      | none => rw [hc] at h2; cases h2
      | some d =>
        rw [hc] at h2
        obtain ⟨hd, rfl⟩ := low_lt hc
        have h3 : 16 * p + d = n := Option.some.inj h2
        obtain ⟨i1, i2, i3⟩ := hexN_of_lowF k a p m hla ha
        have e1 : 16 ^ (k + 1) * m = 16 * (16 ^ k * m) := by rw [Nat.pow_succ, Nat.mul_comm (16 ^ k) 16, Nat.mul_assoc]
        have e2 : 16 ^ (k + 1) * (m + 1) = 16 * (16 ^ k * (m + 1)) := by rw [Nat.pow_succ, Nat.mul_comm (16 ^ k) 16, Nat.mul_assoc]
        rw [e1, e2]
        refine ⟨?_, by omega, by omega⟩
        rw [hexN]
        have q1 : (n - 16 * (16 ^ k * m)) / 16 = p - 16 ^ k * m := by omega
        have q2 : (n - 16 * (16 ^ k * m)) % 16 = d := by omega
        rw [q1, q2, ← i1]

/-- What the reference reads: eight digits. -/
theorem low8 {l : List UInt8} {n : Nat} (hl : l.length = 8) (h : lowF 0 l = some n) : l = hexN 8 n ∧ n < 4294967296 := by
  obtain ⟨h1, _, h3⟩ := hexN_of_lowF 8 l n 0 hl h
  exact ⟨by simpa using h1, by omega⟩
theorem low8_back {n : Nat} (h : n < 4294967296) : lowF 0 (hexN 8 n) = some n := by
  have := lowF_hexN 8 n 0 (by omega)
  simpa using this

end Go.Proofs.YteibkechlkjpgabDoor
