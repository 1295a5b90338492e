/-
  A slice of float32 that came in, opened. No condition.
-/
import Derived.Test.YteibkechlkjpgaaDoorVl
import Derived.Test.YteibkechlkjpgaaDoorFo
set_option linter.unusedVariables false
namespace Go.Proofs.YteibkechlkjpgaaDoor
open Go.RowKit Go.Proofs.YteibkechlkjpgaaDoor.Fl Go.ChangeShapes Go.WideShapes

theorem floats_of {H : Type} {enc : TypeId × Value → H} {P : Program} {w : World} {base : Nat} {spare : Nat → Bool} {held : Bool} {t e : TypeId} {fuel len cap : Nat} {s : Option Addr} {x : DataW H × List MemPlace}
    (ht : P.underlying t = some (.slice e)) (he : P.underlying e = some (.float .f32)) (hc : P.cellsOf e = 1) (h : DataW.trod enc P w base spare held fuel t [.slice s len cap] = some x) :
    ∃ cs : List (Option Nat), len = cs.length ∧ RdC w s cs := by
  rcases Go.Deep.open_slice1 ht hc h with ⟨h1, _⟩ | ⟨a, len', cap', m, n, V, D, Pl, h1, hb, hl, hm, hmm, _, hx⟩
  · cases h1
    exact ⟨[], rfl, fun i hi => absurd hi (Nat.not_lt_zero _)⟩
  · cases h1
    have hlm : len ≤ m := by rw [hmm]; split <;> omega
    have each : ∀ i, i < len → ∃ z, V i = .float .f32 z ∧ z < 2 ^ FloatKind.f32.format.width := fun i hi => trod_float he (hx i (by omega)).2
    refine ⟨(List.range len).map (fun i => match V i with | .float _ z => cls .f32 z | _ => none), by simp, fun i hi => ?_⟩
    have hi' : i < len := by simpa using hi
    obtain ⟨z, hz, hlt⟩ := each i hi'
    refine ⟨a, z, rfl, ?_, ?_, ?_⟩
    · have := block_lt_of_cell (hx i (by omega)).1
      rwa [addr_block] at this
    · rw [(hx i (by omega)).1, hz]
    · have e : ((List.range len).map (fun i => match V i with | .float _ z => cls .f32 z | _ => none)).getD i none = cls .f32 z := by
        simp [hi', hz]
      rw [e]
      exact Fv.self hlt

end Go.Proofs.YteibkechlkjpgaaDoor
