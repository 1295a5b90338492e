/-
  The walks of the statements on vectors and turns: NoTurn. No condition but that the words fit their kinds.
-/
import Derived.Test.YteefiihliepbgabVb
set_option linter.unusedVariables false
namespace Go.Proofs.Yteefiihliepbgab
open Go.RowKit Go.Proofs.Yteefiihliepbgab.Fl

set_option maxHeartbeats 2000000 in
set_option maxRecDepth 10000 in
theorem core_NoTurn   (w : World) :
    Calls Try.prog 4 #[] w (RetB true w) := by
  go_enter Try.func4, Try.ntmps4
  go_upto_region 1 with fail
  have hbel := Below.refl w.heap.size w
  go_wp2_with fail
  refine (c_spec_NoTurn  _).mono ?_
  rintro e w2w ⟨⟨pw, xw, yw, zw, rfl, hvw⟩, hb⟩
  replace hbel := hbel.trans (hb.mono hbel.size)
  clear hb
  go_upto_region 2 with fail
  refine wp_name (fun wr => Has4 wr w2w.heap.size pw xw yw zw ∧ Below w.heap.size w wr) ⟨⟨by simp, by simp, by simp, by simp⟩, hbel.alloc hbel.size _⟩ ?_
  clear hbel  
  rintro W1 ⟨hw, hbel⟩
  go_wp2_with fail
  refine (c_impl_NoTurn  _).mono ?_
  rintro e w2g ⟨⟨pg, xg, yg, zg, rfl, hvg⟩, hb⟩
  replace hw := hw.below hb
  replace hbel := hbel.trans (hb.mono hbel.size)
  clear hb
  obtain ⟨c00, c01, c02, c03⟩ := id hw
  go_upto_region 3 with fail
  refine wp_name (fun wr => Has4 wr w2w.heap.size pw xw yw zw ∧ Has4 wr w2g.heap.size pg xg yg zg ∧ Below w.heap.size w wr) ⟨hw.below ((Below.refl _ _).alloc (Nat.le_refl _) _), ⟨by simp, by simp, by simp, by simp⟩, hbel.alloc hbel.size _⟩ ?_
  clear hbel c00 c01 c02 c03 hw
  rintro W2 ⟨hw, hg, hbel⟩
  obtain ⟨c00, c01, c02, c03⟩ := hw
  obtain ⟨c10, c11, c12, c13⟩ := hg
  go_wp2_with fail
  refine (eqTurn_any (by assumption) (by assumption) _).mono ?_
  rintro e w' ⟨rfl, hb⟩
  go_wp2_with fail
  go_ret
  exact ⟨rfl, hbel.trans (hb.mono hbel.size)⟩

theorem walk_NoTurn  (w : World) :
    Calls Try.prog 4 #[] w (RetB true w) :=
  core_NoTurn   w

end Go.Proofs.Yteefiihliepbgab
