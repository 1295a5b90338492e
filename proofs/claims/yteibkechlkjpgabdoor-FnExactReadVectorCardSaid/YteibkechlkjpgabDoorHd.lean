/-
  Eight hexadecimal digits through the library's parse: plain. No program.
-/
import Derived.Test.YteibkechlkjpgabDoorHc
set_option linter.unusedVariables false
namespace Go.Proofs.YteibkechlkjpgabDoor
open Go.RowKit

theorem hexV_hexB : ∀ d : Fin 16, hexV (hexB d.val) = d.val := by decide +kernel
theorem hexP_append : ∀ (a b : List UInt8) (acc m : Nat), hexP acc a = .ok m → hexP acc (a ++ b) = hexP m b
  | [], b, acc, m, h => by cases h; rfl
  | c :: r, b, acc, m, h => by
    rw [hexP] at h
    rw [List.cons_append, hexP]
    split at h
    · rename_i h1
      rw [if_pos h1]
      split at h
      · cases h
      · rename_i h2
        rw [if_neg h2]
        exact hexP_append r b _ m h
    · cases h
theorem hexP_hexN : ∀ (k n : Nat), n < 16 ^ k → n < 4294967296 → hexP 0 (hexN k n) = .ok n
  | 0, n, h, _ => by
    have : n = 0 := by simpa using h
    subst this; rfl
  | k + 1, n, h, h2 => by
    have ih := hexP_hexN k (n / 16) (by rw [Nat.pow_succ] at h; omega) (by omega)
    have hv : hexV (hexB (n % 16)) = n % 16 := hexV_hexB ⟨n % 16, Nat.mod_lt _ (by decide)⟩
    have hd : n % 16 < 16 := Nat.mod_lt _ (by decide)
    rw [hexN, hexP_append _ _ _ _ ih, hexP, hv, if_pos hd, if_neg (by omega), hexP]
    congr 1
    omega
theorem parse8 {n : Nat} (h : n < 4294967296) : hexP 0 (hexN 8 n) = .ok n := hexP_hexN 8 n (by omega) h
theorem hexP_lt : ∀ (l : List UInt8) (acc m : Nat), acc < 4294967296 → hexP acc l = .ok m → m < 4294967296
  | [], acc, m, h, e => by cases e; exact h
  | c :: r, acc, m, h, e => by
    rw [hexP] at e
    split at e
    · split at e
      · cases e
      · rename_i h2
        exact hexP_lt r _ m (by omega) e
    · cases e

end Go.Proofs.YteibkechlkjpgabDoor
