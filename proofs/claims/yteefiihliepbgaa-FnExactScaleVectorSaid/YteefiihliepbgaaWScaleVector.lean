/-
  The walks of the statements on vectors and turns: ScaleVector. No condition but that the words fit their kinds.
-/
import Derived.Test.YteefiihliepbgaaVb
set_option linter.unusedVariables false
namespace Go.Proofs.Yteefiihliepbgaa
open Go.RowKit Go.Proofs.Yteefiihliepbgaa.Fl

set_option maxHeartbeats 2000000 in
set_option maxRecDepth 10000 in
theorem core_ScaleVector {a00 a01 a02 a10 : Nat} {k0 : V3} {k1 : Option Nat} (h0 : Fv3 a00 a01 a02 k0) (h1 : Fv .f32 a10 k1) (w : World) :
    Calls Try.prog 6 #[vec a00 a01 a02, .float .f32 a10] w (RetB true w) := by
  go_enter Try.func6, Try.ntmps6
  go_upto_region 1 with fail
  refine wp_name (fun wr => Has3 wr w.heap.size a00 a01 a02 ∧ Below w.heap.size w wr) ⟨⟨by simp, by simp, by simp⟩, by (repeat (first | exact Below.refl _ _ | (refine below_drewN ?_ _) | (refine Below.drew ?_) | (refine Below.setCell ?_ (by simp; try omega) _) | (refine Below.alloc ?_ (by simp; try omega) _) | (refine Below.trans ?_ (Below.mono (by assumption) (by simp; try omega)))))⟩ ?_
  rintro W0 ⟨hp, hbel⟩
  obtain ⟨c00, c01, c02⟩ := id hp
  go_wp2_with fail
  refine (toVector_any (by assumption) _).mono ?_
  rintro e w1 ⟨⟨x2, y2, z2, rfl, hv⟩, hb⟩
  clear c00 c01 c02
  replace hp := hp.below hb
  replace hbel := hbel.trans (hb.mono hbel.size)
  clear hb
  obtain ⟨c00, c01, c02⟩ := id hp
  go_wp2_with fail
  refine (c_spec_ScaleVector (by assumption) (by assumption) _).mono ?_
  rintro e w2w ⟨⟨xw, yw, zw, rfl, hvw⟩, hb⟩
  clear c00 c01 c02
  replace hp := hp.below hb
  replace hbel := hbel.trans (hb.mono hbel.size)
  clear hb
  obtain ⟨c00, c01, c02⟩ := id hp
  go_upto_region 2 with fail
  refine wp_name (fun wr => Has3 wr w.heap.size a00 a01 a02 ∧ Has3 wr w2w.heap.size xw yw zw ∧ Below w.heap.size w wr) ⟨hp.below ((Below.refl _ _).alloc (Nat.le_refl _) _), ⟨by simp, by simp, by simp⟩, hbel.alloc hbel.size _⟩ ?_
  clear hbel c00 c01 c02 hp
  rintro W1 ⟨hp, hw, hbel⟩
  obtain ⟨c00, c01, c02⟩ := id hp
  obtain ⟨c10, c11, c12⟩ := id hw
  go_wp2_with fail
  refine (toVector_any (by assumption) _).mono ?_
  rintro e w1 ⟨⟨x2, y2, z2, rfl, hv⟩, hb⟩
  clear c00 c01 c02 c10 c11 c12
  replace hp := hp.below hb
  replace hw := hw.below hb
  replace hbel := hbel.trans (hb.mono hbel.size)
  clear hb
  obtain ⟨c00, c01, c02⟩ := id hp
  obtain ⟨c10, c11, c12⟩ := id hw
  go_wp2_with fail
  refine (c_impl_ScaleVector (by assumption) (by assumption) _).mono ?_
  rintro e w2g ⟨⟨xg, yg, zg, rfl, hvg⟩, hb⟩
  clear c00 c01 c02 c10 c11 c12
  replace hp := hp.below hb
  replace hw := hw.below hb
  replace hbel := hbel.trans (hb.mono hbel.size)
  clear hb
  obtain ⟨c00, c01, c02⟩ := id hp
  obtain ⟨c10, c11, c12⟩ := id hw
  go_upto_region 3 with fail
  refine wp_name (fun wr => Has3 wr w.heap.size a00 a01 a02 ∧ Has3 wr w2w.heap.size xw yw zw ∧ Has3 wr w2g.heap.size xg yg zg ∧ Below w.heap.size w wr) ⟨hp.below ((Below.refl _ _).alloc (Nat.le_refl _) _), hw.below ((Below.refl _ _).alloc (Nat.le_refl _) _), ⟨by simp, by simp, by simp⟩, hbel.alloc hbel.size _⟩ ?_
  clear hbel c00 c01 c02 c10 c11 c12 hp hw
  rintro W2 ⟨hp, hw, hg, hbel⟩
  obtain ⟨c00, c01, c02⟩ := hp
  obtain ⟨c10, c11, c12⟩ := hw
  obtain ⟨c20, c21, c22⟩ := hg
  go_wp2_with fail
  refine (eqVector_any (by assumption) (by assumption) _).mono ?_
  rintro e w' ⟨rfl, hb⟩
  go_wp2_with fail
  go_ret
  exact ⟨rfl, hbel.trans (hb.mono hbel.size)⟩

theorem walk_ScaleVector (a00 : Nat) (w00 : a00 < 2 ^ FloatKind.f32.format.width) (a01 : Nat) (w01 : a01 < 2 ^ FloatKind.f32.format.width) (a02 : Nat) (w02 : a02 < 2 ^ FloatKind.f32.format.width) (a1 : Nat) (w1 : a1 < 2 ^ FloatKind.f32.format.width) (w : World) :
    Calls Try.prog 6 #[vec a00 a01 a02, .float .f32 a1] w (RetB true w) :=
  core_ScaleVector (k0 := ⟨cls .f32 a00, cls .f32 a01, cls .f32 a02⟩) (k1 := cls .f32 a1) ⟨Fv.self w00, Fv.self w01, Fv.self w02⟩ (Fv.self w1) w

end Go.Proofs.Yteefiihliepbgaa
