/-
  The walk of the statement ReadVector. No condition but the tables' and the variables'.
-/
import Derived.Test.YteibkechlkjpgabDoorHv
set_option linter.unusedVariables false
namespace Go.Proofs.YteibkechlkjpgabDoor
open Go.RowKit Go.Proofs.YteibkechlkjpgabDoor.Fl

set_option maxRecDepth 20000 in
set_option maxHeartbeats 4000000 in
theorem c_spec_ReadVector {w : World} {s : ByteArray} (hs : s.size ≤ 1048576) :
    Calls Tryd.prog 10 #[.string s] w (RetVB (vecOf (resNs s)) (isVec3 (resNs s)) w) := by
  have c : ∀ w, Calls Tryd.prog 17 #[.string s] w (RetVB (vecOf (resNs s)) (isVec3 (resNs s)) w) := fun w => c_l01VRead hs
  generalize vecOf (resNs s) = V at *
  generalize isVec3 (resNs s) = b at *
  go_enter Tryd.func10, Tryd.ntmps10
  go_upto_region 1 with fail
  refine wp_name (fun wr => HasF3 wr w.heap.size 0 0 0 ∧ Below w.heap.size w wr) ⟨⟨⟨by go_simp, by go_simp, by go_simp⟩, fun o => by go_simp⟩, by (repeat (first | exact Below.refl _ _ | (refine below_drewN ?_ _) | (refine Below.drew ?_) | (refine Below.setCell ?_ (by first | omega | (simp; try omega)) _) | (refine Below.alloc ?_ (by first | omega | (simp; try omega)) _) | (refine Below.trans ?_ (Below.mono (by assumption) (by first | omega | (simp; try omega))))))⟩ ?_
  rintro W1 ⟨hp, hbel⟩
  go_wp2_with fail
  refine (c _).mono ?_
  rintro e W2 ⟨⟨x, y, z, rfl, hV⟩, hb⟩
  replace hp := hp.below hb
  replace hbel := hbel.trans (hb.mono hbel.size)
  obtain ⟨⟨c0, c1, c2⟩, fz⟩ := id hp
  have HV := Lib.hid hV
  clear c hb hV
  go_wp2_with fail
  obtain ⟨W3, hW3⟩ : ∃ W3, W3 = (((W2.setCell ⟨w.heap.size, 0, none⟩ (.float .f32 x)).setCell ⟨w.heap.size, 1, none⟩ (.float .f32 y)).setCell ⟨w.heap.size, 2, none⟩ (.float .f32 z)) := ⟨_, rfl⟩
  have h3' : Has3 W3 w.heap.size x y z := by rw [hW3]; exact hp.1.made _ _ _
  have hb3 : Below w.heap.size w W3 := by rw [hW3]; exact ((hbel.setCell (Nat.le_refl _) _).setCell (Nat.le_refl _) _).setCell (Nat.le_refl _) _
  rw [← hW3]
  obtain ⟨d0, d1, d2⟩ := h3'
  clear hW3 hp hbel
  (try simp only [Exit.inBlock, Exit.then])
  refine bodyPost_ret (v := .tuple #[vec x y z, .bool b]) (by simp [results, Tryd.results10, go_sem, d0, d1, d2]) rfl ?_
  exact ⟨⟨_, _, _, rfl, HV.out⟩, by first | exact hb3 | exact hb3.drew⟩

set_option maxRecDepth 20000 in
set_option maxHeartbeats 4000000 in
theorem walk_ReadVector (s : ByteArray) (_ : s.size ≤ maxLen) (w : World) (h : Db w ∧ Errs w ∧ Mx w) :
    Calls Tryd.prog 4 #[.string s] w (RetB true w) := by
  by_cases hs : s.size ≤ 1048576
  · have c1 : ∀ w, Calls Tryd.prog 10 #[.string s] w (RetVB (vecOf (resNs s)) (isVec3 (resNs s)) w) := fun w => c_spec_ReadVector hs
    have c2 : ∀ w1, Below w.heap.size w w1 → Calls Tryd.prog 11 #[.string s] w1 (RetVB (vecOf (resNs s)) (isVec3 (resNs s)) w1) := fun w1 hb => c_impl_ReadVector hs (h.1.on hb (Nat.le_refl _)) (h.2.1.on hb (Nat.le_refl _)) (h.2.2.on hb (Nat.le_refl _))
    clear h
    generalize vecOf (resNs s) = V at *
    generalize isVec3 (resNs s) = b at *
    go_enter Tryd.func4, Tryd.ntmps4
    go_wp2_with fail
    refine (c1 _).mono ?_
    rintro e W1 ⟨⟨x, y, z, rfl, hV⟩, hb1⟩
    have HV := Lib.hid (And.intro hV hb1)
    clear hV hb1 c1
    go_wp2_with fail
    have hbA : Below w.heap.size w (W1.alloc (.cells #[.float .f32 x, .float .f32 y, .float .f32 z] 30)) := HV.out.2.alloc HV.out.2.size _
    have hp : Has3 (W1.alloc (.cells #[.float .f32 x, .float .f32 y, .float .f32 z] 30)) W1.heap.size x y z := ⟨by go_simp, by go_simp, by go_simp⟩
    refine (c2 _ hbA).mono ?_
    rintro e W2 ⟨⟨x2, y2, z2, rfl, hV2⟩, hb2⟩
    have hp2 := hp.below hb2
    have hlt := hp2.lt
    have hbB := hbA.trans (hb2.mono hbA.size)
    have HV2 := Lib.hid (And.intro hV2 hbB)
    obtain ⟨c0, c1, c2'⟩ := id hp2
    clear hp hbA hp2 hV2 hb2 hbB c2
    go_wp2_with fail
    refine (eqVector_any HV2.out.1 HV.out.1 _).mono ?_
    rintro e W3 ⟨rfl, hb3⟩
    have hbC := (HV2.out.2.alloc HV2.out.2.size (.cells #[.float .f32 x2, .float .f32 y2, .float .f32 z2] 30))
    have hbD := hbC.trans (hb3.mono hbC.size)
    clear hb3 hbC
    go_wp2_with fail
    go_ret
    exact ⟨rfl, hbD⟩
  · clear h
    go_enter Tryd.func4, Tryd.ntmps4
    go_wp2_with fail
    go_ret
    exact ⟨rfl, Below.refl _ _⟩

end Go.Proofs.YteibkechlkjpgabDoor
