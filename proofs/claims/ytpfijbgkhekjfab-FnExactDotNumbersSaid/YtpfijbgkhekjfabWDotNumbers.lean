/-
  The walk of the statement DotNumbers. No condition.
-/
import Derived.Test.YtpfijbgkhekjfabVp
set_option linter.unusedVariables false
namespace Go.Proofs.Ytpfijbgkhekjfab
open Go.RowKit Go.Proofs.Ytpfijbgkhekjfab.Fl

set_option maxHeartbeats 4000000 in
theorem walk_DotNumbers (A : Option Addr) (cap : Nat) (cs : List (Option Nat)) (B : Option Addr) (cap2 : Nat) (ds : List (Option Nat)) (w : World) (h : RdC w A cs) (h2 : RdC w B ds) :
    Calls Try.prog 5 #[.slice A cs.length cap, .slice B ds.length cap2] w (RetB true w) := by
  by_cases hs : cs.length ≤ 1048576
  · by_cases hs2 : ds.length ≤ 1048576
    · have hbel := Below.refl w.heap.size w
      by_cases hf' : cs.length ≤ 256 ∧ cs.length = ds.length
      · have hf := Lib.hid hf'
        replace hf : _ ∧ _ := hf.out
        have HF := Lib.hid hf
        clear hf hf'
        go_enter Try.func5, Try.ntmps5
        go_wp2_with fail
        refine (c_toF (h.below hbel) hs).mono ?_
        rintro e wk1 ⟨g1, rfl, hg1, hrow1, hb1⟩
        replace hbel := hbel.trans (hb1.mono hbel.size)
        go_wp2_with fail
        refine (c_toF (h2.below hbel) hs2).mono ?_
        rintro e wk2 ⟨g2, rfl, hg2, hrow2, hb2⟩
        replace hbel := hbel.trans (hb2.mono hbel.size)
        go_wp2_with fail
        refine (c_spec_DotNumbers (hrow1.below hb2).rd hrow2.rd HF.out.1 HF.out.2).mono ?_
        rintro e wk3 ⟨⟨rs, rfl, hrs⟩, hb3⟩
        replace hbel := hbel.trans (hb3.mono hbel.size)
        go_wp2_with fail
        refine (c_toF (h.below hbel) hs).mono ?_
        rintro e wk4 ⟨g4, rfl, hg4, hrow4, hb4⟩
        replace hbel := hbel.trans (hb4.mono hbel.size)
        go_wp2_with fail
        refine (c_toF (h2.below hbel) hs2).mono ?_
        rintro e wk5 ⟨g5, rfl, hg5, hrow5, hb5⟩
        replace hbel := hbel.trans (hb5.mono hbel.size)
        replace hrow4 := hrow4.below hb5
        go_wp2_with fail
        refine (c_impl_DotNumbers hrow4.rd hrow5.rd HF.out.1 HF.out.2).mono ?_
        rintro e w6 ⟨⟨ri, rfl, hri⟩, hb6⟩
        replace hbel := hbel.trans (hb6.mono hbel.size)
        replace hrow4 := hrow4.below hb6
        replace hrow5 := hrow5.below hb6
        go_wp2_with (first | ((with_reducible apply upon_float_conv); exact f32some; exact Try.underlying25; assumption; exact fits_widen (by assumption); intro r n hr; (try rw [World.drewN_drewN]); simp only [Act.put, List.setIfInBounds_toArray, List.set_cons_zero, List.set_cons_succ]) | (go_at_call 10; refine (sameFloat_b (by assumption) (by assumption) _).mono ?_; rintro e w' ⟨rfl, m, rfl⟩) | (go_at_call 14; fail))
        have hnB : ∀ k, Below w6.heap.size w6 (w6.drewN k) := fun k => below_drewN (Below.refl _ _) _
        have hwB : ∀ k, Below w.heap.size w (w6.drewN k) := fun k => below_drewN hbel _
        refine (c_toF (h.below (hwB _)) hs).mono ?_
        rintro e wk7 ⟨g7, rfl, hg7, hrow7, hb7⟩
        have hbel7 := (hwB _).trans (hb7.mono (hwB _).size)
        have hrow47 := ((hrow4.below (hnB _)).below hb7)
        have hrow57 := ((hrow5.below (hnB _)).below hb7)
        go_wp2_with fail
        refine (c_eqF hrow47.rd hrow7.rd hs).mono ?_
        rintro e wk8 ⟨rfl, hb8⟩
        have hbel8 := hbel7.trans (hb8.mono hbel7.size)
        have hrow58 := hrow57.below hb8
        go_wp2_with fail
        refine (c_toF (h2.below hbel8) hs2).mono ?_
        rintro e wk9 ⟨g9, rfl, hg9, hrow9, hb9⟩
        have hbel9 := hbel8.trans (hb9.mono hbel8.size)
        have hrow59 := hrow58.below hb9
        go_wp2_with fail
        refine (c_eqF hrow59.rd hrow9.rd hs2).mono ?_
        rintro e wk10 ⟨rfl, hb10⟩
        go_wp2_with fail
        go_ret
        exact ⟨rfl, hbel9.trans (hb10.mono hbel9.size)⟩
      · have hf2 : 256 < cs.length ∨ cs.length ≠ ds.length := by omega
        have HF := Lib.hid hf2
        clear hf2 hf'
        go_enter Try.func5, Try.ntmps5
        go_wp2_with fail
        refine (c_toF (h.below hbel) hs).mono ?_
        rintro e wk1 ⟨g1, rfl, hg1, hrow1, hb1⟩
        replace hbel := hbel.trans (hb1.mono hbel.size)
        go_wp2_with fail
        refine (c_toF (h2.below hbel) hs2).mono ?_
        rintro e wk2 ⟨g2, rfl, hg2, hrow2, hb2⟩
        replace hbel := hbel.trans (hb2.mono hbel.size)
        go_wp2_with fail
        refine (dot_many_spec HF.out).mono ?_
        rintro e wk3 ⟨⟨rs, rfl, hrs⟩, hb3⟩
        replace hbel := hbel.trans (hb3.mono hbel.size)
        go_wp2_with fail
        refine (c_toF (h.below hbel) hs).mono ?_
        rintro e wk4 ⟨g4, rfl, hg4, hrow4, hb4⟩
        replace hbel := hbel.trans (hb4.mono hbel.size)
        go_wp2_with fail
        refine (c_toF (h2.below hbel) hs2).mono ?_
        rintro e wk5 ⟨g5, rfl, hg5, hrow5, hb5⟩
        replace hbel := hbel.trans (hb5.mono hbel.size)
        replace hrow4 := hrow4.below hb5
        go_wp2_with fail
        refine (dot_many_impl HF.out).mono ?_
        rintro e w6 ⟨⟨ri, rfl, hri⟩, hb6⟩
        replace hbel := hbel.trans (hb6.mono hbel.size)
        replace hrow4 := hrow4.below hb6
        replace hrow5 := hrow5.below hb6
        go_wp2_with (first | ((with_reducible apply upon_float_conv); exact f32some; exact Try.underlying25; assumption; exact fits_widen (by assumption); intro r n hr; (try rw [World.drewN_drewN]); simp only [Act.put, List.setIfInBounds_toArray, List.set_cons_zero, List.set_cons_succ]) | (go_at_call 10; refine (sameFloat_b (by assumption) (by assumption) _).mono ?_; rintro e w' ⟨rfl, m, rfl⟩) | (go_at_call 14; fail))
        have hnB : ∀ k, Below w6.heap.size w6 (w6.drewN k) := fun k => below_drewN (Below.refl _ _) _
        have hwB : ∀ k, Below w.heap.size w (w6.drewN k) := fun k => below_drewN hbel _
        refine (c_toF (h.below (hwB _)) hs).mono ?_
        rintro e wk7 ⟨g7, rfl, hg7, hrow7, hb7⟩
        have hbel7 := (hwB _).trans (hb7.mono (hwB _).size)
        have hrow47 := ((hrow4.below (hnB _)).below hb7)
        have hrow57 := ((hrow5.below (hnB _)).below hb7)
        go_wp2_with fail
        refine (c_eqF hrow47.rd hrow7.rd hs).mono ?_
        rintro e wk8 ⟨rfl, hb8⟩
        have hbel8 := hbel7.trans (hb8.mono hbel7.size)
        have hrow58 := hrow57.below hb8
        go_wp2_with fail
        refine (c_toF (h2.below hbel8) hs2).mono ?_
        rintro e wk9 ⟨g9, rfl, hg9, hrow9, hb9⟩
        have hbel9 := hbel8.trans (hb9.mono hbel8.size)
        have hrow59 := hrow58.below hb9
        go_wp2_with fail
        refine (c_eqF hrow59.rd hrow9.rd hs2).mono ?_
        rintro e wk10 ⟨rfl, hb10⟩
        go_wp2_with fail
        go_ret
        exact ⟨rfl, hbel9.trans (hb10.mono hbel9.size)⟩
    · go_enter Try.func5, Try.ntmps5
      go_wp2
      go_ret
      exact ⟨rfl, Below.refl _ _⟩
  · go_enter Try.func5, Try.ntmps5
    go_wp2
    go_ret
    exact ⟨rfl, Below.refl _ _⟩

end Go.Proofs.Ytpfijbgkhekjfab
