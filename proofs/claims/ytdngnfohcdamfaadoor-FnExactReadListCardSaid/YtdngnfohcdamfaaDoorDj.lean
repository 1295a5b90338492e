/-
  ReadDecimal: the walk. No condition but the tables'.
-/
import Derived.Test.YtdngnfohcdamfaaDoorDi
set_option linter.unusedVariables false
namespace Go.Proofs.YtdngnfohcdamfaaDoor
open Go.RowKit Go.Proofs.YtdngnfohcdamfaaDoor.Fl

theorem c_spec_ReadDecimal {w : World} {s : ByteArray} (hs : s.size ≤ 1048576) :
    Calls Tryd.prog 13 #[.string s] w (RetD (resD s) w) := by
  have c := c_l01Value (w := w) hs
  generalize resD s = r at *
  go_enter Tryd.func13, Tryd.ntmps13
  go_wp2_with (go_at_call 25; refine c.mono ?_; rintro e w1 ⟨rfl, hb1⟩)
  go_ret2
  exact ⟨rfl, hb1⟩

theorem walk_ReadDecimal (s : ByteArray) (_ : s.size ≤ maxLen) (w : World) (h : Tab w ∧ Errs w) :
    Calls Tryd.prog 5 #[.string s] w (RetB true w) := by
  by_cases hs : s.size ≤ 1048576
  · have c := c_spec_ReadDecimal (w := w) hs
    have c2 : ∀ w1, Below w.heap.size w w1 → Calls Tryd.prog 14 #[.string s] w1 (RetD (resD s) w1) := fun w1 hb => c_impl_ReadDecimal hs (h.1.on hb (Nat.le_refl _)) (h.2.on hb (Nat.le_refl _))
    clear h
    generalize resD s = r at *
    go_enter Tryd.func5, Tryd.ntmps5
    go_wp2_with (first | (go_at_call 13; refine c.mono ?_; rintro e w1 ⟨rfl, hb1⟩) | (go_at_call 14; refine (c2 _ (by assumption)).mono ?_; rintro e w2 ⟨rfl, hb2⟩))
    go_ret
    exact ⟨rfl, hb1.trans (hb2.mono hb1.size)⟩
  · clear h
    go_enter Tryd.func5, Tryd.ntmps5
    go_wp2_with fail
    go_ret
    exact ⟨rfl, Below.refl _ _⟩

end Go.Proofs.YtdngnfohcdamfaaDoor
