/-
  l01Hex: the reference's eight digits. No condition.
-/
import Derived.Test.YteibkechlkjpgabDoorHe
import Derived.WalkSpells
set_option linter.unusedVariables false
namespace Go.Proofs.YteibkechlkjpgabDoor
open Go.RowKit Go.Proofs.YteibkechlkjpgabDoor.Fl

theorem hexN_step (j n : Nat) (h : j < 8) : hexN (j + 1) (n / 16 ^ (8 - (j + 1))) = hexN j (n / 16 ^ (8 - j)) ++ [hexB (n / 16 ^ (8 - (j + 1)) % 16)] := by
  rw [hexN]
  congr 2
  rw [Nat.div_div_eq_div_mul, ← Nat.pow_succ, show (8 - (j + 1)).succ = 8 - j by omega]

theorem and15i {U : Int} (h : 0 ≤ U ∧ U < 9223372036854775808) : bits BinOp.and IntKind.i64 U 15 = U % 16 := by
  obtain ⟨V, rfl⟩ : ∃ V : Nat, U = V := ⟨U.toNat, by omega⟩
  have e := and_i64 V 15 (by omega) (by decide)
  rw [show V &&& 15 = V % 16 from Nat.and_two_pow_sub_one_eq_mod V 4] at e
  exact e
theorem one_bv (b : UInt8) : ∀ u ∈ [bv b], u.oneCell' = true := by
  intro u hu; rw [List.mem_singleton.1 hu]; rfl
theorem own_block {w : World} {base : Nat} {e : TypeId} {size : Nat} {v : Value} {n : Nat} {xs : List Value} (h : w.ownsRow base e size v n xs) : ∀ k, v.ownBlock = some k → base ≤ k := by
  intro k hk
  rcases h.2 with ⟨rfl, _⟩ | ⟨g, cap, cur, rfl, hbg, _⟩
  · simp [Value.ownBlock] at hk
  · simp [Value.ownBlock] at hk; omega
theorem digit16 {d : Nat} : ∀ (h : d < 16) (h2 : d < (ByteArray.mk #[48, 49, 50, 51, 52, 53, 54, 55, 56, 57, 97, 98, 99, 100, 101, 102]).size), ((ByteArray.mk #[48, 49, 50, 51, 52, 53, 54, 55, 56, 57, 97, 98, 99, 100, 101, 102])[d]'h2) = hexB d := by
  have all : ∀ d : Fin 16, ((ByteArray.mk #[48, 49, 50, 51, 52, 53, 54, 55, 56, 57, 97, 98, 99, 100, 101, 102])[d.val]'(by have := d.2; simp [ByteArray.size])) = hexB d.val := by decide +kernel
  exact fun h h2 => all ⟨d, h⟩

end Go.Proofs.YteibkechlkjpgabDoor
