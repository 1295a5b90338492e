/-
  How float arguments, and structs of floats, are opened. Of whatever program; no condition.
-/
import Derived.Test.YteibkechlkjpgaaDoorFc
import Derived.ProofKit
import Derived.OpenShut
import Derived.Laws.Cover2
import Derived.Lib.SmallJoins
import Derived.Below
set_option linter.unusedVariables false
namespace Go.Proofs.YteibkechlkjpgaaDoor.Fl
open Go.ChangeShapes Go.WideShapes Go.ChangeAt Go.RowKit Go.Joins

section
variable {H : Type} {enc : TypeId × Value → H} {P : Program} {w : World} {base : Nat} {spare : Nat → Bool} {held : Bool}

theorem trod_float {n : Nat} {t : TypeId} {k : FloatKind} {v : Value} {y : DataW H × List MemPlace} (ht : P.underlying t = some (.float k))
    (h : DataW.trod enc P w base spare held n t [v] = some y) : ∃ b, v = .float k b ∧ b < 2 ^ k.format.width := by
  cases n with
  | zero => simp [DataW.trod] at h
  | succ n =>
    cases v <;> simp [DataW.trod, ht] at h
    rename_i k' b
    obtain ⟨⟨rfl, hw⟩, _⟩ := h
    exact ⟨b, rfl, lt_of_wf hw⟩
end

end Go.Proofs.YteibkechlkjpgaaDoor.Fl
