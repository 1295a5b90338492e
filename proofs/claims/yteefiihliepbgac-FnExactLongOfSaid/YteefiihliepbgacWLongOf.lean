/-
  The walks of the statements on vectors and turns: LongOf. No condition but that the words fit their kinds.
-/
import Derived.Test.YteefiihliepbgacVq
set_option linter.unusedVariables false
namespace Go.Proofs.Yteefiihliepbgac
open Go.RowKit Go.Proofs.Yteefiihliepbgac.Fl

set_option maxHeartbeats 2000000 in
set_option maxRecDepth 10000 in
theorem core_LongOf {a00 a01 a02 : Nat} {k0 : V3} (h0 : Fv3 a00 a01 a02 k0) (w : World) :
    Calls Try.prog 4 #[vec a00 a01 a02] w (RetB true w) := by
  go_enter Try.func4, Try.ntmps4
  go_upto_region 1 with fail
  refine wp_name (fun wr => Has3 wr w.heap.size a00 a01 a02 ∧ Below w.heap.size w wr) ⟨⟨by simp, by simp, by simp⟩, by (repeat (first | exact Below.refl _ _ | (refine below_drewN ?_ _) | (refine Below.drew ?_) | (refine Below.setCell ?_ (by first | omega | (simp; try omega)) _) | (refine Below.alloc ?_ (by first | omega | (simp; try omega)) _) | (refine Below.trans ?_ (Below.mono (by assumption) (by first | omega | (simp; try omega))))))⟩ ?_
  rintro W0 ⟨hp, hbel⟩
  obtain ⟨c00, c01, c02⟩ := id hp
  go_wp2_with fail
  refine (toVector_any (by assumption) _).mono ?_
  rintro e w1 ⟨⟨x2, y2, z2, rfl, hv⟩, hb⟩
  clear c00 c01 c02
  replace hp := hp.below hb
  replace hbel := hbel.trans (hb.mono hbel.size)
  clear hb
  obtain ⟨c00, c01, c02⟩ := id hp
  go_wp2_with fail
  refine (c_spec_LongOf (by assumption) _).mono ?_
  rintro e w2w ⟨⟨rw, rfl, hvw⟩, hb⟩
  clear c00 c01 c02
  replace hp := hp.below hb
  replace hbel := hbel.trans (hb.mono hbel.size)
  clear hb
  obtain ⟨c00, c01, c02⟩ := id hp
  go_upto_region 2 with fail
  clear c00 c01 c02
  obtain ⟨c00, c01, c02⟩ := id hp
  go_wp2_with fail
  refine (toVector_any (by assumption) _).mono ?_
  rintro e w1 ⟨⟨x2, y2, z2, rfl, hv⟩, hb⟩
  clear c00 c01 c02
  replace hp := hp.below hb
  replace hbel := hbel.trans (hb.mono hbel.size)
  clear hb
  obtain ⟨c00, c01, c02⟩ := id hp
  go_wp2_with fail
  refine (c_impl_LongOf (by assumption) _).mono ?_
  rintro e w2g ⟨⟨rg, rfl, hvg⟩, hb⟩
  clear c00 c01 c02
  replace hp := hp.below hb
  replace hbel := hbel.trans (hb.mono hbel.size)
  clear hb
  obtain ⟨c00, c01, c02⟩ := id hp
  go_upto_region 3 with fail
  clear c00 c01 c02
  obtain ⟨c00, c01, c02⟩ := hp
  go_wp2_with (first | ((with_reducible apply upon_float_conv); exact f32some; exact Try.underlying25; assumption; exact fits_widen (by assumption); intro r n hr; (try rw [World.drewN_drewN]); simp only [Act.put, List.setIfInBounds_toArray, List.set_cons_zero, List.set_cons_succ]) | (go_at_call 13; refine (sameFloat_b (by assumption) (by assumption) _).mono ?_; rintro e w' ⟨rfl, m, rfl⟩))
  go_ret
  exact ⟨rfl, below_drewN hbel _⟩

theorem walk_LongOf (a00 : Nat) (w00 : a00 < 2 ^ FloatKind.f32.format.width) (a01 : Nat) (w01 : a01 < 2 ^ FloatKind.f32.format.width) (a02 : Nat) (w02 : a02 < 2 ^ FloatKind.f32.format.width) (w : World) :
    Calls Try.prog 4 #[vec a00 a01 a02] w (RetB true w) :=
  core_LongOf (k0 := ⟨cls .f32 a00, cls .f32 a01, cls .f32 a02⟩) ⟨Fv.self w00, Fv.self w01, Fv.self w02⟩ w

end Go.Proofs.Yteefiihliepbgac
