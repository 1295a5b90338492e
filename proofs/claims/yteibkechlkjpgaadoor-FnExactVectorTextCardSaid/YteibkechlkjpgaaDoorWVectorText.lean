/-
  VectorText: the two sides and the walk. No condition but the table's.
-/
import Derived.Test.YteibkechlkjpgaaDoorHh
set_option linter.unusedVariables false
namespace Go.Proofs.YteibkechlkjpgaaDoor
open Go.RowKit Go.Proofs.YteibkechlkjpgaaDoor.Fl

theorem rd_three {w : World} {g x y z : Nat} {V : V3} (hg : g < w.heap.size) (h0 : w.cell? ⟨g, 0, none⟩ = some (.float .f32 x)) (h1 : w.cell? ⟨g, 1, none⟩ = some (.float .f32 y)) (h2 : w.cell? ⟨g, 2, none⟩ = some (.float .f32 z)) (h : Fv3 x y z V) :
    RdC w (some ⟨g, 0, none⟩) [V.x, V.y, V.z] := by
  intro i hi
  match i, hi with
  | 0, _ => exact ⟨_, x, rfl, hg, by simpa [Addr.add] using h0, h.x⟩
  | 1, _ => exact ⟨_, y, rfl, hg, by simpa [Addr.add] using h1, h.y⟩
  | 2, _ => exact ⟨_, z, rfl, hg, by simpa [Addr.add] using h2, h.z⟩

abbrev txtV (V : V3) : ByteArray := ⟨(txtN [V.x, V.y, V.z]).toArray⟩

set_option maxHeartbeats 1000000 in
theorem c_l01VText {x y z : Nat} {V : V3} (h : Fv3 x y z V) (w : World) :
    Calls Tryd.prog 16 #[vec x y z] w fun e w' => e = .returned (.string (txtV V)) ∧ Below w.heap.size w w' := by
  go_enter Tryd.func16, Tryd.ntmps16
  go_wp2_with fail
  refine (c_l01NText (cs := [V.x, V.y, V.z]) (rd_three (by simp) (by go_simp) (by go_simp) (by go_simp) h) (by simp)).mono ?_
  rintro e w2 ⟨rfl, hb2⟩
  have hb : Below w.heap.size w w2 := Below.trans (by (repeat (first | exact Below.refl _ _ | (refine below_drewN ?_ _) | (refine Below.drew ?_) | (refine Below.setCell ?_ (by first | omega | (simp; try omega)) _) | (refine Below.alloc ?_ (by first | omega | (simp; try omega)) _) | (refine Below.trans ?_ (Below.mono (by assumption) (by first | omega | (simp; try omega))))))) (hb2.mono (by simp; omega))
  clear hb2
  go_wp2_with fail
  go_ret
  exact ⟨rfl, hb⟩

theorem c_spec_VectorText {x y z : Nat} {V : V3} (h : Fv3 x y z V) (w : World) :
    Calls Tryd.prog 9 #[vec x y z] w fun e w' => e = .returned (.string (txtV V)) ∧ Below w.heap.size w w' := by
  go_enter Tryd.func9, Tryd.ntmps9
  go_wp2_with fail
  refine (c_l01VText h _).mono ?_
  rintro e w2 ⟨rfl, hb2⟩
  have hb : Below w.heap.size w w2 := Below.trans (by (repeat (first | exact Below.refl _ _ | (refine below_drewN ?_ _) | (refine Below.drew ?_) | (refine Below.setCell ?_ (by first | omega | (simp; try omega)) _) | (refine Below.alloc ?_ (by first | omega | (simp; try omega)) _) | (refine Below.trans ?_ (Below.mono (by assumption) (by first | omega | (simp; try omega))))))) (hb2.mono (by simp))
  clear hb2
  go_wp2_with fail
  go_ret
  exact ⟨rfl, hb⟩

set_option maxHeartbeats 1000000 in
theorem c_impl_VectorText {x y z : Nat} {V : V3} (h : Fv3 x y z V) (w : World) (ht : Db w) :
    Calls Tryd.prog 11 #[vec x y z] w fun e w' => e = .returned (.string (txtV V)) ∧ Below w.heap.size w w' := by
  have HT := Lib.hid ht
  clear ht
  go_enter Tryd.func11, Tryd.ntmps11
  go_wp2_with fail
  refine (c_impl_numbersText (cs := [V.x, V.y, V.z]) (rd_three (by simp) (by go_simp) (by go_simp) (by go_simp) h) (by simp) (HT.out.on (B := w.heap.size) (by (repeat (first | exact Below.refl _ _ | (refine below_drewN ?_ _) | (refine Below.drew ?_) | (refine Below.setCell ?_ (by first | omega | (simp; try omega)) _) | (refine Below.alloc ?_ (by first | omega | (simp; try omega)) _) | (refine Below.trans ?_ (Below.mono (by assumption) (by first | omega | (simp; try omega))))))) (Nat.le_refl _))).mono ?_
  rintro e w2 ⟨rfl, hb2⟩
  have hb : Below w.heap.size w w2 := Below.trans (by (repeat (first | exact Below.refl _ _ | (refine below_drewN ?_ _) | (refine Below.drew ?_) | (refine Below.setCell ?_ (by first | omega | (simp; try omega)) _) | (refine Below.alloc ?_ (by first | omega | (simp; try omega)) _) | (refine Below.trans ?_ (Below.mono (by assumption) (by first | omega | (simp; try omega))))))) (hb2.mono (by simp; omega))
  clear hb2
  go_wp2_with fail
  go_ret
  exact ⟨rfl, hb⟩

set_option maxHeartbeats 4000000 in
theorem core_VectorText {x y z : Nat} {V : V3} (h : Fv3 x y z V) (w : World) (ht : Db w) :
    Calls Tryd.prog 4 #[vec x y z] w (RetB true w) := by
  have HT := Lib.hid ht
  clear ht
  go_enter Tryd.func4, Tryd.ntmps4
  go_upto_region 1 with fail
  refine wp_name (fun wr => Has3 wr w.heap.size x y z ∧ Below w.heap.size w wr) ⟨⟨by go_simp, by go_simp, by go_simp⟩, by (repeat (first | exact Below.refl _ _ | (refine below_drewN ?_ _) | (refine Below.drew ?_) | (refine Below.setCell ?_ (by first | omega | (simp; try omega)) _) | (refine Below.alloc ?_ (by first | omega | (simp; try omega)) _) | (refine Below.trans ?_ (Below.mono (by assumption) (by first | omega | (simp; try omega))))))⟩ ?_
  rintro W1 ⟨hp, hbel⟩
  obtain ⟨c0, c1, c2⟩ := id hp
  go_wp2_with fail
  refine (toVector_any h _).mono ?_
  rintro e W2 ⟨⟨x2, y2, z2, rfl, hv⟩, hb⟩
  replace hp := hp.below hb
  replace hbel := hbel.trans (hb.mono hbel.size)
  clear hb c0 c1 c2
  go_wp2_with fail
  refine (c_spec_VectorText hv _).mono ?_
  rintro e W3 ⟨rfl, hb⟩
  replace hp := hp.below hb
  replace hbel := hbel.trans (hb.mono hbel.size)
  clear hb hv
  obtain ⟨c0, c1, c2⟩ := id hp
  go_wp2_with fail
  refine (toVector_any h _).mono ?_
  rintro e W4 ⟨⟨x4, y4, z4, rfl, hv⟩, hb⟩
  replace hbel := hbel.trans (hb.mono hbel.size)
  clear hb c0 c1 c2 hp
  go_wp2_with fail
  refine (c_impl_VectorText hv _ (HT.out.on hbel (Nat.le_refl _))).mono ?_
  rintro e W5 ⟨rfl, hb⟩
  replace hbel := hbel.trans (hb.mono hbel.size)
  clear hb
  generalize txtV V = s
  go_wp2_with fail
  go_ret
  exact ⟨rfl, hbel⟩

theorem walk_VectorText (a00 : Nat) (w00 : a00 < 2 ^ FloatKind.f32.format.width) (a01 : Nat) (w01 : a01 < 2 ^ FloatKind.f32.format.width) (a02 : Nat) (w02 : a02 < 2 ^ FloatKind.f32.format.width) (w : World) (ht : Db w) :
    Calls Tryd.prog 4 #[vec a00 a01 a02] w (RetB true w) :=
  core_VectorText (V := ⟨cls .f32 a00, cls .f32 a01, cls .f32 a02⟩) ⟨Fv.self w00, Fv.self w01, Fv.self w02⟩ w ht

end Go.Proofs.YteibkechlkjpgaaDoor
