/-
  The walk of the statement ReadNumbers. No condition but the tables' and the variables'.
-/
import Derived.Test.YteibkechlkjpgabDoorHn
set_option linter.unusedVariables false
namespace Go.Proofs.YteibkechlkjpgabDoor
open Go.RowKit Go.Proofs.YteibkechlkjpgabDoor.Fl

set_option maxRecDepth 20000 in
set_option maxHeartbeats 4000000 in
theorem walk_ReadNumbers (s : ByteArray) (_ : s.size ≤ maxLen) (w : World) (h : Db w ∧ Errs w ∧ Mx w) :
    Calls Tryd.prog 3 #[.string s] w (RetB true w) := by
  by_cases hs : s.size ≤ 1048576
  · have c1 : ∀ w, Calls Tryd.prog 5 #[.string s] w (RetRdF (resNs s) w) := fun w => c_spec_ReadNumbers hs
    have c2 : ∀ w1, Below w.heap.size w w1 → Calls Tryd.prog 6 #[.string s] w1 (RetOwnF (resNs s) w1) := fun w1 hb => c_impl_ReadNumbers hs (h.1.on hb (Nat.le_refl _)) (h.2.1.on hb (Nat.le_refl _)) (h.2.2.on hb (Nat.le_refl _))
    have hlen := resNs_len s
    clear h
    generalize resNs s = o at *
    unfold RetRdF at c1
    unfold RetOwnF at c2
    generalize o.isSome = b at *
    generalize o.getD [] = xs at *
    go_enter Tryd.func3, Tryd.ntmps3
    go_wp2_with fail
    refine (c1 _).mono ?_
    rintro e w1 ⟨A1, cap1, rfl, hrd1, hb1⟩
    go_wp2_with fail
    refine (c2 _ hb1).mono ?_
    rintro e w2 ⟨A2, cap2, rfl, hown2, hb2⟩
    have hB2 := hb1.trans (hb2.mono hb1.size)
    have H2 := Lib.hid (And.intro hrd1 (And.intro hown2 (And.intro hb1 (And.intro hb2 hB2))))
    clear hrd1 hown2 hb1 hb2 hB2
    go_wp2_with fail
    refine (c_eqF H2.out.2.1.rd (H2.out.1.below H2.out.2.2.2.1) (by omega)).mono ?_
    rintro e w3 ⟨rfl, hb3⟩
    go_wp2_with fail
    refine (c_markF (H2.out.2.1.below hb3) rfl (by omega)).mono ?_
    rintro e w4 ⟨rfl, hown4, hb4⟩
    go_wp2_with fail
    refine (c_heldF hown4 (by omega)).mono ?_
    rintro e w5 ⟨rfl, hb5⟩
    have hb35 : Below w1.heap.size w3 w5 := hb4.trans (hb5.mono (Nat.le_trans (Nat.le_trans H2.out.2.2.2.1.size hb3.size) hb4.size))
    have hb15 : Below w1.heap.size w1 w5 := (H2.out.2.2.2.1.trans (hb3.mono H2.out.2.2.2.1.size)).trans hb35
    have hB5 := H2.out.2.2.1.trans (hb15.mono H2.out.2.2.1.size)
    have H5 := Lib.hid (And.intro hown4 (And.intro hb5 (And.intro hb15 hB5)))
    clear hown4 hb5 hb15 hb35 hB5 hb3 hb4
    go_wp2_with fail
    refine (c2 _ H5.out.2.2.2).mono ?_
    rintro e w6 ⟨A6, cap6, rfl, hown6, hb6⟩
    have H6 := Lib.hid (And.intro hown6 hb6)
    clear hown6 hb6
    go_wp2_with fail
    refine (c_eqF H6.out.1.rd ((H2.out.1.below H5.out.2.2.1).below H6.out.2) (by omega)).mono ?_
    rintro e w7 ⟨rfl, hb7⟩
    go_wp2_with fail
    refine (c_heldF (((H5.out.1.below H5.out.2.1).below H6.out.2).below hb7) (by omega)).mono ?_
    rintro e w8 ⟨rfl, hb8⟩
    have hB6 := H5.out.2.2.2.trans (H6.out.2.mono H5.out.2.2.2.size)
    have hB7 := hB6.trans (hb7.mono hB6.size)
    have H8 := Lib.hid (hB7.trans (hb8.mono hB7.size))
    clear hB6 hB7 hb7 hb8
    go_wp2_with fail
    go_ret
    exact ⟨rfl, H8.out⟩
  · clear h
    go_enter Tryd.func3, Tryd.ntmps3
    go_wp2_with fail
    go_ret
    exact ⟨rfl, Below.refl _ _⟩

end Go.Proofs.YteibkechlkjpgabDoor
