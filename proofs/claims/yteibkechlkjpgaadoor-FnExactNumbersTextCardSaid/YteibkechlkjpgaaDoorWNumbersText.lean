/-
  The walk of the statement NumbersText. No condition but the table's.
-/
import Derived.Test.YteibkechlkjpgaaDoorHh
set_option linter.unusedVariables false
namespace Go.Proofs.YteibkechlkjpgaaDoor
open Go.RowKit Go.Proofs.YteibkechlkjpgaaDoor.Fl

set_option maxHeartbeats 4000000 in
theorem walk_NumbersText (A : Option Addr) (cap : Nat) (cs : List (Option Nat)) (w : World) (h : RdC w A cs) (ht : Db w) :
    Calls Tryd.prog 3 #[.slice A cs.length cap] w (RetB true w) := by
  by_cases hs : cs.length ≤ 1048576
  · have HT := Lib.hid ht
    have hbel := Below.refl w.heap.size w
    clear ht
    go_enter Tryd.func3, Tryd.ntmps3
    go_wp2_with fail
    refine (c_toF (h.below hbel) hs).mono ?_
    rintro e wk1 ⟨g1, rfl, hg1, hrow1, hb1⟩
    replace hbel := hbel.trans (hb1.mono hbel.size)
    go_wp2_with fail
    refine (c_spec_NumbersText hrow1.rd).mono ?_
    rintro e w2 ⟨rfl, hb2⟩
    replace hbel := hbel.trans (hb2.mono hbel.size)
    go_wp2_with fail
    refine (c_toF (h.below hbel) hs).mono ?_
    rintro e wk3 ⟨g3, rfl, hg3, hrow3, hb3⟩
    replace hbel := hbel.trans (hb3.mono hbel.size)
    go_wp2_with fail
    refine (c_impl_NumbersText hrow3.rd hs (HT.out.on hbel (Nat.le_refl _))).mono ?_
    rintro e w4 ⟨rfl, hb4⟩
    replace hbel := hbel.trans (hb4.mono hbel.size)
    have hrow4 := hrow3.below hb4
    generalize resN cs = s
    generalize fewN cs = b
    go_wp2_with fail
    refine (c_toF (h.below hbel) hs).mono ?_
    rintro e wk5 ⟨g5, rfl, hg5, hrow5, hb5⟩
    have hbel5 := hbel.trans (hb5.mono hbel.size)
    have hrow6 := (hrow4.below hb5).rd
    go_wp2_with fail
    refine (c_eqF hrow6 hrow5.rd hs).mono ?_
    rintro e w6 ⟨rfl, hb6⟩
    go_wp2_with fail
    go_ret
    exact ⟨rfl, hbel5.trans (hb6.mono hbel5.size)⟩
  · clear h ht
    go_enter Tryd.func3, Tryd.ntmps3
    go_wp2_with fail
    go_ret
    exact ⟨rfl, Below.refl _ _⟩

end Go.Proofs.YteibkechlkjpgaaDoor
