/-
  The walks of the statements on vectors and turns: AxisOf. No condition but that the words fit their kinds.
-/
import Derived.Test.YteefiihliepbgabVt
set_option linter.unusedVariables false
namespace Go.Proofs.Yteefiihliepbgab
open Go.RowKit Go.Proofs.Yteefiihliepbgab.Fl

set_option maxHeartbeats 2000000 in
set_option maxRecDepth 10000 in
theorem core_AxisOf {a00 a01 a02 a03 : Nat} {k0 : V4} (h0 : Fv4 a00 a01 a02 a03 k0) (w : World) :
    Calls Try.prog 10 #[turn a00 a01 a02 a03] w (RetB true w) := by
  go_enter Try.func10, Try.ntmps10
  go_upto_region 1 with fail
  refine wp_name (fun wr => Has4 wr w.heap.size a00 a01 a02 a03 ∧ Below w.heap.size w wr) ⟨⟨by simp, by simp, by simp, by simp⟩, by (repeat (first | exact Below.refl _ _ | (refine below_drewN ?_ _) | (refine Below.drew ?_) | (refine Below.setCell ?_ (by first | omega | (simp; try omega)) _) | (refine Below.alloc ?_ (by first | omega | (simp; try omega)) _) | (refine Below.trans ?_ (Below.mono (by assumption) (by first | omega | (simp; try omega))))))⟩ ?_
  rintro W0 ⟨hp, hbel⟩
  obtain ⟨c00, c01, c02, c03⟩ := id hp
  go_wp2_with fail
  refine (toTurn_any (by assumption) _).mono ?_
  rintro e w1 ⟨⟨p2, x2, y2, z2, rfl, hv⟩, hb⟩
  clear c00 c01 c02 c03
  replace hp := hp.below hb
  replace hbel := hbel.trans (hb.mono hbel.size)
  clear hb
  obtain ⟨c00, c01, c02, c03⟩ := id hp
  go_wp2_with fail
  refine (c_spec_AxisOf (by assumption) _).mono ?_
  rintro e w2w ⟨⟨xw, yw, zw, rfl, hvw⟩, hb⟩
  clear c00 c01 c02 c03
  replace hp := hp.below hb
  replace hbel := hbel.trans (hb.mono hbel.size)
  clear hb
  obtain ⟨c00, c01, c02, c03⟩ := id hp
  go_upto_region 2 with fail
  refine wp_name (fun wr => Has4 wr w.heap.size a00 a01 a02 a03 ∧ Has3 wr w2w.heap.size xw yw zw ∧ Below w.heap.size w wr) ⟨hp.below ((Below.refl _ _).alloc (Nat.le_refl _) _), ⟨by simp, by simp, by simp⟩, hbel.alloc hbel.size _⟩ ?_
  clear hbel c00 c01 c02 c03 hp
  rintro W1 ⟨hp, hw, hbel⟩
  obtain ⟨c00, c01, c02, c03⟩ := id hp
  obtain ⟨c10, c11, c12⟩ := id hw
  go_wp2_with fail
  refine (toTurn_any (by assumption) _).mono ?_
  rintro e w1 ⟨⟨p2, x2, y2, z2, rfl, hv⟩, hb⟩
  clear c00 c01 c02 c03 c10 c11 c12
  replace hp := hp.below hb
  replace hw := hw.below hb
  replace hbel := hbel.trans (hb.mono hbel.size)
  clear hb
  obtain ⟨c00, c01, c02, c03⟩ := id hp
  obtain ⟨c10, c11, c12⟩ := id hw
  go_wp2_with fail
  refine (c_impl_AxisOf (by assumption) _).mono ?_
  rintro e w2g ⟨⟨xg, yg, zg, rfl, hvg⟩, hb⟩
  clear c00 c01 c02 c03 c10 c11 c12
  replace hp := hp.below hb
  replace hw := hw.below hb
  replace hbel := hbel.trans (hb.mono hbel.size)
  clear hb
  obtain ⟨c00, c01, c02, c03⟩ := id hp
  obtain ⟨c10, c11, c12⟩ := id hw
  go_upto_region 3 with fail
  refine wp_name (fun wr => Has4 wr w.heap.size a00 a01 a02 a03 ∧ Has3 wr w2w.heap.size xw yw zw ∧ Has3 wr w2g.heap.size xg yg zg ∧ Below w.heap.size w wr) ⟨hp.below ((Below.refl _ _).alloc (Nat.le_refl _) _), hw.below ((Below.refl _ _).alloc (Nat.le_refl _) _), ⟨by simp, by simp, by simp⟩, hbel.alloc hbel.size _⟩ ?_
  clear hbel c00 c01 c02 c03 c10 c11 c12 hp hw
  rintro W2 ⟨hp, hw, hg, hbel⟩
  obtain ⟨c00, c01, c02, c03⟩ := hp
  obtain ⟨c10, c11, c12⟩ := hw
  obtain ⟨c20, c21, c22⟩ := hg
  go_wp2_with fail
  refine (eqVector_any (by assumption) (by assumption) _).mono ?_
  rintro e w' ⟨rfl, hb⟩
  go_wp2_with fail
  go_ret
  exact ⟨rfl, hbel.trans (hb.mono hbel.size)⟩

theorem walk_AxisOf (a00 : Nat) (w00 : a00 < 2 ^ FloatKind.f32.format.width) (a01 : Nat) (w01 : a01 < 2 ^ FloatKind.f32.format.width) (a02 : Nat) (w02 : a02 < 2 ^ FloatKind.f32.format.width) (a03 : Nat) (w03 : a03 < 2 ^ FloatKind.f32.format.width) (w : World) :
    Calls Try.prog 10 #[turn a00 a01 a02 a03] w (RetB true w) :=
  core_AxisOf (k0 := ⟨cls .f32 a00, cls .f32 a01, cls .f32 a02, cls .f32 a03⟩) ⟨Fv.self w00, Fv.self w01, Fv.self w02, Fv.self w03⟩ w

end Go.Proofs.Yteefiihliepbgab
