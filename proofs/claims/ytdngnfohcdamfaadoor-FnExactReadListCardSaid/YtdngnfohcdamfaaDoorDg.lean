/-
  A decimal numeral read: plain facts: the library's parse of the numeral, the reference's fold over the digits. No program.
-/
import Derived.Test.YtdngnfohcdamfaaDoorDe
import Derived.Lib.ParseIntB
import Derived.Lib.ParseIntBCases
set_option linter.unusedVariables false
namespace Go.Proofs.YtdngnfohcdamfaaDoor
open Go.RowKit Go.Proofs.YtdngnfohcdamfaaDoor.Fl

def stepD (v : Nat) (b : UInt8) : Nat := if 48 ≤ b.toNat ∧ b.toNat ≤ 57 then 10 * v + (b.toNat - 48) else v
def valF (v : Nat) (l : List UInt8) : Nat := l.foldl stepD v
abbrev val (l : List UInt8) : Nat := valF 0 l
def AllDig (l : List UInt8) : Prop := ∀ c ∈ l, 48 ≤ c.toNat ∧ c.toNat ≤ 57

theorem valF_append (v : Nat) (a b : List UInt8) : valF v (a ++ b) = valF (valF v a) b := by simp [valF]
theorem val_one (a : List UInt8) (b : UInt8) : val (a ++ [b]) = stepD (val a) b := by simp [valF]
theorem val_take {l : List UInt8} {k : Nat} {b : UInt8} (h : l[k]? = some b) : val (l.take (k + 1)) = stepD (val (l.take k)) b := by
  rw [List.take_add_one, h]; exact val_one _ _

theorem valF_lt : ∀ (l : List UInt8) (v m : Nat), v < 10 ^ m → valF v l < 10 ^ (m + l.length)
  | [], v, m, h => by simpa [valF] using h
  | b :: r, v, m, h => by
    have e : valF v (b :: r) = valF (stepD v b) r := rfl
    have h2 : stepD v b < 10 ^ (m + 1) := by
      rw [Nat.pow_succ]; unfold stepD; split <;> omega
    have := valF_lt r (stepD v b) (m + 1) h2
    rw [e, List.length_cons]
    rwa [show m + (r.length + 1) = m + 1 + r.length by omega]
theorem val_lt (l : List UInt8) : val l < 10 ^ l.length := by
  have := valF_lt l 0 0 (by decide)
  rwa [Nat.zero_add] at this

theorem dig_byte {d : Nat} (h : d < 10) : (UInt8.ofNat (48 + d)).toNat = 48 + d := by
  rw [UInt8.toNat_ofNat']; exact Nat.mod_eq_of_lt (by omega)

theorem decDigits_dig : ∀ (u : Nat), AllDig (Lib.decDigits u) := by
  intro u
  induction u using Nat.strongRecOn with
  | _ u ih =>
    intro c hc
    by_cases h : u < 10
    · rw [Lib.decDigits, dif_pos h] at hc
      obtain rfl := List.mem_singleton.1 hc
      rw [dig_byte h]; omega
    · rw [Lib.decDigits, dif_neg h] at hc
      rcases List.mem_append.1 hc with h1 | h1
      · exact ih (u / 10) (by omega) c h1
      · obtain rfl := List.mem_singleton.1 h1
        rw [dig_byte (by omega)]; omega

theorem val_dec : ∀ (u : Nat), val (Lib.decDigits u) = u := by
  intro u
  induction u using Nat.strongRecOn with
  | _ u ih =>
    by_cases h : u < 10
    · rw [Lib.decDigits, dif_pos h]
      show stepD 0 _ = u
      unfold stepD
      rw [dig_byte h, if_pos (by omega)]; omega
    · rw [Lib.decDigits, dif_neg h, val_one, ih (u / 10) (by omega)]
      unfold stepD
      rw [dig_byte (by omega), if_pos (by omega)]; omega

theorem valF_ge : ∀ (l : List UInt8) (v : Nat), v ≤ valF v l
  | [], v => Nat.le_refl _
  | b :: r, v => by
    have h2 : v ≤ stepD v b := by unfold stepD; split <;> omega
    exact Nat.le_trans h2 (valF_ge r (stepD v b))

theorem parse_dig {M : Nat} (hM : 100000000000000000 ≤ M) : ∀ (l : List UInt8) (acc : Nat), AllDig l → valF acc l ≤ 100000000000000000 → Lib.parseUintM M acc l = .ok (valF acc l)
  | [], acc, _, _ => rfl
  | c :: r, acc, hd, hv => by
    have hc := hd c (by simp)
    have e : valF acc (c :: r) = valF (acc * 10 + (c.toNat - 48)) r := by
      show valF (stepD acc c) r = _
      unfold stepD; rw [if_pos hc, Nat.mul_comm]
    rw [e] at hv
    have hg := valF_ge r (acc * 10 + (c.toNat - 48))
    unfold Lib.parseUintM
    rw [if_pos hc, if_neg (by omega), if_neg (by omega), e]
    exact parse_dig hM r _ (fun x hx => hd x (by simp [hx])) hv

theorem decDigits_ne (u : Nat) : Lib.decDigits u ≠ [] := by
  intro h
  have := congrArg List.length h
  rw [Lib.decDigits_length] at this
  have := Lib.nDigits_pos u
  simp at *
  omega

theorem parseU {u : Nat} (h : u ≤ 100000000000000000) : Lib.parseUintB 64 (Lib.decDigits u) = .ok u := by
  unfold Lib.parseUintB
  rw [if_neg (decDigits_ne u), parse_dig (by omega) _ 0 (decDigits_dig u) (by show val _ ≤ _; rw [val_dec]; exact h)]
  exact congrArg _ (val_dec u)

theorem parse_itoa {n : Int} (h : inV n = true) : Lib.parseIntB 64 (Lib.itoa n) = .ok n := by
  have hr := inV_range h
  unfold Lib.itoa
  by_cases c : n < 0
  · rw [if_pos c, Lib.parseIntB_minus, parseU (by omega)]
    show (if 2 ^ (64 - 1) < n.natAbs then (Lib.NumEnd.range : Lib.NumEnd Int) else .ok (-(n.natAbs : Int))) = .ok n
    rw [if_neg (by omega)]
    exact congrArg _ (by omega)
  · rw [if_neg c]
    have hp := parseU (u := n.toNat) (by omega)
    cases hd : Lib.decDigits n.toNat with
    | nil => exact absurd hd (decDigits_ne _)
    | cons b r =>
      have hb := decDigits_dig n.toNat b (by rw [hd]; simp)
      rw [Lib.parseIntB_plain _ _ _ (by omega) (by omega), ← hd, hp]
      show (if 2 ^ (64 - 1) ≤ n.toNat then (Lib.NumEnd.range : Lib.NumEnd Int) else .ok (n.toNat : Int)) = .ok n
      rw [if_neg (by omega)]
      exact congrArg _ (by omega)

/-! ### what a text reads as -/
open Classical in
noncomputable def resD (s : ByteArray) : Int × Bool :=
  match Lib.parseIntB 64 s.data.toList with
  | .ok n => if inV n = true ∧ dec n = s then (n, true) else (0, false)
  | _ => (0, false)

theorem resD_is {s : ByteArray} {n : Int} (h : inV n = true) (hs : dec n = s) : resD s = (n, true) := by
  subst hs
  unfold resD
  have := parse_itoa h
  rw [show (dec n).data.toList = Lib.itoa n from rfl, this]
  exact if_pos ⟨h, rfl⟩
theorem resD_no {s : ByteArray} (h : ∀ n, inV n = true → dec n = s → False) : resD s = (0, false) := by
  unfold resD
  split
  · exact if_neg (fun c => h _ c.1 c.2)
  · rfl
theorem dec_inj {n m : Int} (h : inV n = true) (k : inV m = true) (e : dec n = dec m) : n = m := by
  have h1 := resD_is h rfl
  have h2 := resD_is k rfl
  rw [e, h2] at h1
  exact (Prod.mk.inj h1).1.symm

/-- The reference's number. -/
def sv (l : List UInt8) : Int := if l.head? = some 45 then -((val l : Nat) : Int) else ((val l : Nat) : Int)

theorem val_minus (l : List UInt8) : val (45 :: l) = val l := rfl
theorem sv_itoa (n : Int) : sv (Lib.itoa n) = n := by
  unfold Lib.itoa sv
  by_cases c : n < 0
  · rw [if_pos c, if_pos (by rfl), val_minus, val_dec]; omega
  · rw [if_neg c, if_neg ?_, val_dec]
    · omega
    · cases hd : Lib.decDigits n.toNat with
      | nil => simp
      | cons b r =>
        have hb := decDigits_dig n.toNat b (by rw [hd]; simp)
        intro e
        simp at e
        subst e
        have : (45 : UInt8).toNat = 45 := rfl
        omega

theorem dec_len {n : Int} (h : inV n = true) : 1 ≤ (dec n).size ∧ (dec n).size ≤ 17 := by
  have hr := inV_range h
  have e : (dec n).size = (Lib.itoa n).length := by simp [ByteArray.size]
  rw [e]
  unfold Lib.itoa
  by_cases c : n < 0
  · rw [if_pos c, List.length_cons, Lib.decDigits_length]
    have := nDigits_le 15 n.natAbs (by omega)
    omega
  · rw [if_neg c, Lib.decDigits_length]
    have := nDigits_le 15 n.toNat (by omega)
    have := Lib.nDigits_pos n.toNat
    omega

theorem sv_dec {s : ByteArray} {n : Int} (hs : dec n = s) : sv s.data.toList = n := by subst hs; exact sv_itoa n

end Go.Proofs.YtdngnfohcdamfaaDoor
