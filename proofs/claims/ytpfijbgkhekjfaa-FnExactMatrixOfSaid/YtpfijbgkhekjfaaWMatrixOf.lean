/-
  The walk of the statement MatrixOf. No condition.
-/
import Derived.Test.YtpfijbgkhekjfaaVz
set_option linter.unusedVariables false
namespace Go.Proofs.Ytpfijbgkhekjfaa
open Go.RowKit Go.Proofs.Ytpfijbgkhekjfaa.Fl

theorem RdC.belowB {B g : Nat} {w w' : World} {cs : List (Option Nat)} (h : RdC w (some ⟨g, 0, none⟩) cs) (hb : Below B w w') (hg : g < B) (hB : B ≤ w'.heap.size) : RdC w' (some ⟨g, 0, none⟩) cs := by
  intro i hi
  obtain ⟨ad, z, h1, h2, h3, h4⟩ := h i hi
  cases h1
  exact ⟨_, z, rfl, Nat.lt_of_lt_of_le hg hB, (hb.cell (p := (⟨g, 0, none⟩ : Addr).add i) (by rw [addr_block]; exact hg)).trans h3, h4⟩

set_option maxHeartbeats 8000000 in
set_option maxRecDepth 20000 in
theorem core_MatrixOf {p x y z : Nat} {T : V4} (h : Fv4 p x y z T) (w : World) : Calls Try.prog 5 #[turn p x y z] w (RetB true w) := by
  have hlen : (matP T 3).length = 9 := matP_length T 3
  generalize hM : matP T 3 = cs at *
  have HM := Lib.hid hM
  clear hM
  go_enter Try.func5, Try.ntmps5
  go_upto_region 1 with fail
  refine wp_name (fun wr => HasF4 wr w.heap.size p x y z ∧ Below w.heap.size w wr) ⟨⟨⟨by go_simp, by go_simp, by go_simp, by go_simp⟩, fun o => by go_simp⟩, by (repeat (first | exact Below.refl _ _ | (refine below_drewN ?_ _) | (refine Below.drew ?_) | (refine Below.setCell ?_ (by first | omega | (simp; try omega)) _) | (refine Below.alloc ?_ (by first | omega | (simp; try omega)) _) | (refine Below.trans ?_ (Below.mono (by assumption) (by first | omega | (simp; try omega))))))⟩ ?_
  rintro W1 ⟨hp, hbel⟩
  obtain ⟨⟨c0, c1, c2, c3⟩, fz⟩ := id hp
  go_wp2_with fail
  refine (toTurn_any h _).mono ?_
  rintro e W2 ⟨⟨p2, x2, y2, z2, rfl, hv⟩, hb⟩
  replace hp := hp.below hb
  replace hbel := hbel.trans (hb.mono hbel.size)
  clear hb c0 c1 c2 c3 fz
  go_wp2_with fail
  refine (c_spec_MatrixOf hv _).mono ?_
  rintro e W3 ⟨gw, capw, rfl, hgw, hrw, hb⟩
  rw [HM.out] at hrw
  replace hp := hp.below hb
  have hrd := hrw.rd
  replace hbel := hbel.trans (hb.mono hbel.size)
  rw [HM.out, hlen]
  have hlw := hrw.lt
  clear hb hgw hrw hv
  obtain ⟨⟨c0, c1, c2, c3⟩, fz⟩ := id hp
  have HR := Lib.hid hrd
  clear hrd
  go_wp2_with fail
  refine (toTurn_any h _).mono ?_
  rintro e W4 ⟨⟨p4, x4, y4, z4, rfl, hv⟩, hb⟩
  replace hp := hp.below hb
  replace HR := Lib.hid (HR.out.below hb)
  have hlw4 := Nat.lt_of_lt_of_le hlw hb.size
  have hpl := hp.lt
  replace hbel := hbel.trans (hb.mono hbel.size)
  clear hb c0 c1 c2 c3 fz hlw
  go_wp2_with fail
  refine (c_impl_MatrixOf hv _).mono ?_
  rintro e W5 ⟨g, cap, rfl, hg, hrow, hb⟩
  rw [HM.out] at hrow
  rw [HM.out, hlen]
  replace hp := hp.below hb
  replace HR := Lib.hid (HR.out.below hb)
  have hgg : gw < g := Nat.lt_of_lt_of_le hlw4 hg
  have hbg : w.heap.size < g := Nat.lt_of_lt_of_le hpl hg
  replace hbel := hbel.trans (hb.mono hbel.size)
  have HW := Lib.hid hrow
  clear hb hv hlw4 hg hrow hpl
  go_wp2_with fail
  rw [← hlen]
  refine (c_eqF (cap := cap) (cap2 := capw) HW.out.rd HR.out (by omega)).mono ?_
  rintro e W6 ⟨rfl, hb⟩
  rw [hlen]
  replace hp := hp.below hb
  replace HR := Lib.hid (HR.out.below hb)
  replace HW := Lib.hid (HW.out.below hb)
  replace hbel := hbel.trans (hb.mono hbel.size)
  clear hb
  have hm9 : MPart W6 g 0 9 := hlen ▸ HW.out.marks
  clear HW
  go_wp2_with fail
  refine (c_mark hm9 (by omega)).mono ?_
  rintro e W7 ⟨rfl, hm, hb⟩
  clear hm9
  have hs7 := hb.size
  have hlg := hm.lt
  replace hp := hp.belowB hb hbg
  replace HR := Lib.hid (HR.out.belowB hb hgg (by omega))
  replace hbel := hbel.trans (hb.mono (by omega))
  have HG := Lib.hid hm
  clear hb hm hs7
  go_wp2_with fail
  refine (c_held HG.out (by omega)).mono ?_
  rintro e W8 ⟨rfl, hb⟩
  replace hp := hp.below hb
  replace HR := Lib.hid (HR.out.below hb)
  replace HG := Lib.hid (HG.out.below hb)
  replace hbel := hbel.trans (hb.mono hbel.size)
  clear hb hlg
  obtain ⟨⟨c0, c1, c2, c3⟩, fz⟩ := id hp
  go_wp2_with fail
  refine (toTurn_any h _).mono ?_
  rintro e W9 ⟨⟨p9, x9, y9, z9, rfl, hv⟩, hb⟩
  replace HR := Lib.hid (HR.out.below hb)
  replace HG := Lib.hid (HG.out.below hb)
  replace hbel := hbel.trans (hb.mono hbel.size)
  clear hb c0 c1 c2 c3 fz hp
  go_wp2_with fail
  refine (c_impl_MatrixOf hv _).mono ?_
  rintro e W10 ⟨g2, cap2, rfl, hg2, hrow2, hb⟩
  rw [HM.out] at hrow2
  rw [HM.out, hlen]
  replace HR := Lib.hid (HR.out.below hb)
  replace HG := Lib.hid (HG.out.below hb)
  replace hbel := hbel.trans (hb.mono hbel.size)
  have HW := Lib.hid hrow2.rd
  clear hb hv hg2 hrow2
  go_wp2_with fail
  rw [← hlen]
  refine (c_eqF (cap := cap2) (cap2 := capw) HW.out HR.out (by omega)).mono ?_
  rintro e W11 ⟨rfl, hb⟩
  rw [hlen]
  replace HG := Lib.hid (HG.out.below hb)
  replace hbel := hbel.trans (hb.mono hbel.size)
  clear hb HW HR
  go_wp2_with fail
  refine (c_held HG.out (by omega)).mono ?_
  rintro e W12 ⟨rfl, hb⟩
  replace hbel := hbel.trans (hb.mono hbel.size)
  clear hb HG
  go_wp2_with fail
  go_ret
  exact ⟨rfl, hbel⟩

theorem walk_MatrixOf (a00 : Nat) (w00 : a00 < 2 ^ FloatKind.f32.format.width) (a01 : Nat) (w01 : a01 < 2 ^ FloatKind.f32.format.width) (a02 : Nat) (w02 : a02 < 2 ^ FloatKind.f32.format.width) (a03 : Nat) (w03 : a03 < 2 ^ FloatKind.f32.format.width) (w : World) :
    Calls Try.prog 5 #[turn a00 a01 a02 a03] w (RetB true w) :=
  core_MatrixOf (T := ⟨cls .f32 a00, cls .f32 a01, cls .f32 a02, cls .f32 a03⟩) ⟨Fv.self w00, Fv.self w01, Fv.self w02, Fv.self w03⟩ w

end Go.Proofs.Ytpfijbgkhekjfaa
