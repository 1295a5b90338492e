/-
  The walks of the statements on vectors and turns: AngleOf. No condition but that the words fit their kinds.
-/
import Derived.Test.YtpfijbgkhekjfaaVy
set_option linter.unusedVariables false
namespace Go.Proofs.Ytpfijbgkhekjfaa
open Go.RowKit Go.Proofs.Ytpfijbgkhekjfaa.Fl

set_option maxHeartbeats 2000000 in
set_option maxRecDepth 10000 in
theorem core_AngleOf {a00 a01 a02 a03 : Nat} {k0 : V4} (h0 : Fv4 a00 a01 a02 a03 k0) (w : World) :
    Calls Try.prog 7 #[turn a00 a01 a02 a03] w (RetB true w) := by
  go_enter Try.func7, Try.ntmps7
  go_upto_region 1 with fail
  refine wp_name (fun wr => Has4 wr w.heap.size a00 a01 a02 a03 ∧ Below w.heap.size w wr) ⟨⟨by simp, by simp, by simp, by simp⟩, by (repeat (first | exact Below.refl _ _ | (refine below_drewN ?_ _) | (refine Below.drew ?_) | (refine Below.setCell ?_ (by first | omega | (simp; try omega)) _) | (refine Below.alloc ?_ (by first | omega | (simp; try omega)) _) | (refine Below.trans ?_ (Below.mono (by assumption) (by first | omega | (simp; try omega))))))⟩ ?_
  rintro W0 ⟨hp, hbel⟩
  obtain ⟨c00, c01, c02, c03⟩ := id hp
  go_wp2_with fail
  refine (toTurn_any (by assumption) _).mono ?_
  rintro e w1 ⟨⟨p2, x2, y2, z2, rfl, hv⟩, hb⟩
  clear c00 c01 c02 c03
  replace hp := hp.below hb
  replace hbel := hbel.trans (hb.mono hbel.size)
  clear hb
  obtain ⟨c00, c01, c02, c03⟩ := id hp
  go_wp2_with fail
  refine (c_spec_AngleOf (by assumption) _).mono ?_
  rintro e w2w ⟨⟨rw, rfl, hvw⟩, hb⟩
  clear c00 c01 c02 c03
  replace hp := hp.below hb
  replace hbel := hbel.trans (hb.mono hbel.size)
  clear hb
  obtain ⟨c00, c01, c02, c03⟩ := id hp
  go_upto_region 2 with fail
  clear c00 c01 c02 c03
  obtain ⟨c00, c01, c02, c03⟩ := id hp
  go_wp2_with fail
  refine (toTurn_any (by assumption) _).mono ?_
  rintro e w1 ⟨⟨p2, x2, y2, z2, rfl, hv⟩, hb⟩
  clear c00 c01 c02 c03
  replace hp := hp.below hb
  replace hbel := hbel.trans (hb.mono hbel.size)
  clear hb
  obtain ⟨c00, c01, c02, c03⟩ := id hp
  go_wp2_with fail
  refine (c_impl_AngleOf (by assumption) _).mono ?_
  rintro e w2g ⟨⟨rg, rfl, hvg⟩, hb⟩
  clear c00 c01 c02 c03
  replace hp := hp.below hb
  replace hbel := hbel.trans (hb.mono hbel.size)
  clear hb
  obtain ⟨c00, c01, c02, c03⟩ := id hp
  go_upto_region 3 with fail
  clear c00 c01 c02 c03
  obtain ⟨c00, c01, c02, c03⟩ := hp
  go_wp2_with (first | ((with_reducible apply upon_float_conv); exact f32some; exact Try.underlying44; assumption; exact fits_widen (by assumption); intro r n hr; (try rw [World.drewN_drewN]); simp only [Act.put, List.setIfInBounds_toArray, List.set_cons_zero, List.set_cons_succ]) | (go_at_call 23; refine (sameFloat_b (by assumption) (by assumption) _).mono ?_; rintro e w' ⟨rfl, m, rfl⟩))
  go_ret
  exact ⟨rfl, below_drewN hbel _⟩

theorem walk_AngleOf (a00 : Nat) (w00 : a00 < 2 ^ FloatKind.f32.format.width) (a01 : Nat) (w01 : a01 < 2 ^ FloatKind.f32.format.width) (a02 : Nat) (w02 : a02 < 2 ^ FloatKind.f32.format.width) (a03 : Nat) (w03 : a03 < 2 ^ FloatKind.f32.format.width) (w : World) :
    Calls Try.prog 7 #[turn a00 a01 a02 a03] w (RetB true w) :=
  core_AngleOf (k0 := ⟨cls .f32 a00, cls .f32 a01, cls .f32 a02, cls .f32 a03⟩) ⟨Fv.self w00, Fv.self w01, Fv.self w02, Fv.self w03⟩ w

end Go.Proofs.Ytpfijbgkhekjfaa
