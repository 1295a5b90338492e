/-
  The walk of the statement SumPairs. No condition.
-/
import Derived.Test.YtpfijbgkhekjfabVp
set_option linter.unusedVariables false
namespace Go.Proofs.Ytpfijbgkhekjfab
open Go.RowKit Go.Proofs.Ytpfijbgkhekjfab.Fl

set_option maxHeartbeats 4000000 in
theorem walk_SumPairs (A : Option Addr) (cap : Nat) (cs : List (Option Nat)) (w : World) (h : RdC w A cs) :
    Calls Try.prog 7 #[.slice A cs.length cap] w (RetB true w) := by
  by_cases hs : cs.length ≤ 1048576
  · have hbel := Below.refl w.heap.size w
    by_cases hf : cs.length ≤ 256
    · go_enter Try.func7, Try.ntmps7
      go_wp2_with fail
      refine (c_toF (h.below hbel) hs).mono ?_
      rintro e wk1 ⟨g1, rfl, hg1, hrow1, hb1⟩
      replace hbel := hbel.trans (hb1.mono hbel.size)
      go_wp2_with fail
      refine (c_spec_SumPairs hrow1.rd hf (Nat.le_refl _) hs).mono ?_
      rintro e w2 ⟨⟨rs, rfl, hrs⟩, hb2⟩
      replace hbel := hbel.trans (hb2.mono hbel.size)
      go_wp2_with fail
      refine (c_toF (h.below hbel) hs).mono ?_
      rintro e wk3 ⟨g3, rfl, hg3, hrow3, hb3⟩
      replace hbel := hbel.trans (hb3.mono hbel.size)
      go_wp2_with fail
      refine (c_impl_SumPairs hrow3.rd hf (Nat.le_refl _) hs).mono ?_
      rintro e w4 ⟨⟨ri, rfl, hri⟩, hb4⟩
      replace hbel := hbel.trans (hb4.mono hbel.size)
      have hrow4 := hrow3.below hb4
      go_wp2_with (first | ((with_reducible apply upon_float_conv); exact f32some; exact Try.underlying25; assumption; exact fits_widen (by assumption); intro r n hr; (try rw [World.drewN_drewN]); simp only [Act.put, List.setIfInBounds_toArray, List.set_cons_zero, List.set_cons_succ]) | (go_at_call 10; refine (sameFloat_b (by assumption) (by assumption) _).mono ?_; rintro e w' ⟨rfl, m, rfl⟩) | (go_at_call 14; fail))
      have hnB : ∀ k, Below wk3.heap.size wk3 (w4.drewN k) := fun k => below_drewN hb4 _
      have hwB : ∀ k, Below w.heap.size w (w4.drewN k) := fun k => below_drewN hbel _
      refine (c_toF (h.below (hwB _)) hs).mono ?_
      rintro e wk5 ⟨g5, rfl, hg5, hrow5, hb5⟩
      have hbel5 := (hwB _).trans (hb5.mono (hwB _).size)
      have hrow6 := ((hrow3.below (hnB _)).below hb5).rd
      go_wp2_with fail
      refine (c_eqF hrow6 hrow5.rd hs).mono ?_
      rintro e w6 ⟨rfl, hb6⟩
      go_wp2_with fail
      go_ret
      exact ⟨rfl, hbel5.trans (hb6.mono hbel5.size)⟩
    · go_enter Try.func7, Try.ntmps7
      go_wp2_with fail
      refine (c_toF (h.below hbel) hs).mono ?_
      rintro e wk1 ⟨g1, rfl, hg1, hrow1, hb1⟩
      replace hbel := hbel.trans (hb1.mono hbel.size)
      go_wp2_with fail
      refine (many_spec_SumPairs (by omega)).mono ?_
      rintro e w2 ⟨⟨rs, rfl, hrs⟩, hb2⟩
      replace hbel := hbel.trans (hb2.mono hbel.size)
      go_wp2_with fail
      refine (c_toF (h.below hbel) hs).mono ?_
      rintro e wk3 ⟨g3, rfl, hg3, hrow3, hb3⟩
      replace hbel := hbel.trans (hb3.mono hbel.size)
      go_wp2_with fail
      refine (many_impl_SumPairs (by omega)).mono ?_
      rintro e w4 ⟨⟨ri, rfl, hri⟩, hb4⟩
      replace hbel := hbel.trans (hb4.mono hbel.size)
      have hrow4 := hrow3.below hb4
      go_wp2_with (first | ((with_reducible apply upon_float_conv); exact f32some; exact Try.underlying25; assumption; exact fits_widen (by assumption); intro r n hr; (try rw [World.drewN_drewN]); simp only [Act.put, List.setIfInBounds_toArray, List.set_cons_zero, List.set_cons_succ]) | (go_at_call 10; refine (sameFloat_b (by assumption) (by assumption) _).mono ?_; rintro e w' ⟨rfl, m, rfl⟩) | (go_at_call 14; fail))
      have hnB : ∀ k, Below wk3.heap.size wk3 (w4.drewN k) := fun k => below_drewN hb4 _
      have hwB : ∀ k, Below w.heap.size w (w4.drewN k) := fun k => below_drewN hbel _
      refine (c_toF (h.below (hwB _)) hs).mono ?_
      rintro e wk5 ⟨g5, rfl, hg5, hrow5, hb5⟩
      have hbel5 := (hwB _).trans (hb5.mono (hwB _).size)
      have hrow6 := ((hrow3.below (hnB _)).below hb5).rd
      go_wp2_with fail
      refine (c_eqF hrow6 hrow5.rd hs).mono ?_
      rintro e w6 ⟨rfl, hb6⟩
      go_wp2_with fail
      go_ret
      exact ⟨rfl, hbel5.trans (hb6.mono hbel5.size)⟩
  · go_enter Try.func7, Try.ntmps7
    go_wp2
    go_ret
    exact ⟨rfl, Below.refl _ _⟩

end Go.Proofs.Ytpfijbgkhekjfab
