/-
  ReadVector: the two sides. No condition but the tables' and the variables'.
-/
import Derived.Test.YteibkechlkjpgabDoorHn
import Derived.Test.YteibkechlkjpgabDoorVf
import Derived.BigRegion
import Derived.RegionTactic
import Derived.ChangeAlike
set_option linter.unusedVariables false
namespace Go.Proofs.YteibkechlkjpgabDoor
open Go.RowKit Go.Proofs.YteibkechlkjpgabDoor.Fl

def V00 : V3 := ⟨some 0, some 0, some 0⟩
theorem fv00 : Fv3 0 0 0 V00 := ⟨(fvc rfl : Fv .f32 0 (some 0)), (fvc rfl : Fv .f32 0 (some 0)), (fvc rfl : Fv .f32 0 (some 0))⟩
/-- The vector of a list; the zero vector if there is none. -/
def vecOf (o : Option (List (Option Nat))) : V3 := match o with
  | some [a, b, c] => ⟨a, b, c⟩
  | _ => V00
def isVec3 (o : Option (List (Option Nat))) : Bool := match o with
  | some [_, _, _] => true
  | _ => false
theorem list3 {cs : List (Option Nat)} (h : cs.length = 3) : ∃ a b c, cs = [a, b, c] := by
  match cs, h with
  | [a, b, c], _ => exact ⟨a, b, c, rfl⟩
theorem vec_not {cs : List (Option Nat)} (h : cs.length ≠ 3) : vecOf (some cs) = V00 ∧ isVec3 (some cs) = false := by
  match cs, h with
  | [], _ => exact ⟨rfl, rfl⟩
  | [_], _ => exact ⟨rfl, rfl⟩
  | [_, _], _ => exact ⟨rfl, rfl⟩
  | [_, _, _], h => exact absurd rfl h
  | _ :: _ :: _ :: _ :: _, _ => exact ⟨rfl, rfl⟩
def RetVB (V : V3) (b : Bool) (w : World) (e : Ending) (w' : World) : Prop := (∃ x y z, e = .returned (.tuple #[vec x y z, .bool b]) ∧ Fv3 x y z V) ∧ Below w.heap.size w w'

set_option maxRecDepth 20000 in
set_option maxHeartbeats 4000000 in
theorem c_l01VRead {w : World} {s : ByteArray} (hs : s.size ≤ 1048576) :
    Calls Tryd.prog 17 #[.string s] w (RetVB (vecOf (resNs s)) (isVec3 (resNs s)) w) := by
  have c : ∀ w', Below w.heap.size w w' → Calls Tryd.prog 13 #[.string s] w' (RetRdF (resNs s) w') := fun w' _ => c_l01NRead hs
  cases hr : resNs s with
  | none =>
    rw [hr] at c
    clear hr
    show Calls _ _ _ _ (RetVB V00 false w)
    go_enter Tryd.func17, Tryd.ntmps17
    go_upto_region 1 with fail
    refine wp_name (fun wr => HasF3 wr w.heap.size 0 0 0 ∧ Below w.heap.size w wr) ⟨⟨⟨by go_simp, by go_simp, by go_simp⟩, fun o => by go_simp⟩, by (repeat (first | exact Below.refl _ _ | (refine below_drewN ?_ _) | (refine Below.drew ?_) | (refine Below.setCell ?_ (by first | omega | (simp; try omega)) _) | (refine Below.alloc ?_ (by first | omega | (simp; try omega)) _) | (refine Below.trans ?_ (Below.mono (by assumption) (by first | omega | (simp; try omega))))))⟩ ?_
    rintro W1 ⟨hp, hbel⟩
    go_wp2_with fail
    refine (c _ hbel).mono ?_
    rintro e W2 ⟨A, cap, rfl, hrd, hb⟩
    have hlt := hp.lt
    replace hp := hp.below hb
    replace hbel := hbel.trans (hb.mono hbel.size)
    clear hb
    obtain ⟨⟨c0, c1, c2⟩, fz⟩ := id hp
    clear c hrd
    go_wp2_with fail
    obtain ⟨W3, hW3⟩ : ∃ W3, W3 = (((W2.setCell ⟨w.heap.size, 0, none⟩ (.float .f32 0)).setCell ⟨w.heap.size, 1, none⟩ (.float .f32 0)).setCell ⟨w.heap.size, 2, none⟩ (.float .f32 0)) := ⟨_, rfl⟩
    have h3' : Has3 W3 w.heap.size 0 0 0 := by rw [hW3]; exact hp.1.made _ _ _
    have hb3 : Below w.heap.size w W3 := by rw [hW3]; exact ((hbel.setCell (Nat.le_refl _) _).setCell (Nat.le_refl _) _).setCell (Nat.le_refl _) _
    rw [← hW3]
    obtain ⟨d0, d1, d2⟩ := h3'
    clear hW3 hp hbel
    (try simp only [Exit.inBlock, Exit.then])
    refine bodyPost_ret (v := .tuple #[vec 0 0 0, .bool false]) (by simp [results, Tryd.results17, go_sem, d0, d1, d2]) rfl ?_
    exact ⟨⟨_, _, _, rfl, fv00⟩, by first | exact hb3 | exact hb3.drew⟩
  | some cs =>
    rw [hr] at c
    clear hr
    by_cases h3 : cs.length = 3
    · obtain ⟨a, b, d, rfl⟩ := list3 h3
      show Calls _ _ _ _ (RetVB ⟨a, b, d⟩ true w)
      go_enter Tryd.func17, Tryd.ntmps17
      go_upto_region 1 with fail
      refine wp_name (fun wr => HasF3 wr w.heap.size 0 0 0 ∧ Below w.heap.size w wr) ⟨⟨⟨by go_simp, by go_simp, by go_simp⟩, fun o => by go_simp⟩, by (repeat (first | exact Below.refl _ _ | (refine below_drewN ?_ _) | (refine Below.drew ?_) | (refine Below.setCell ?_ (by first | omega | (simp; try omega)) _) | (refine Below.alloc ?_ (by first | omega | (simp; try omega)) _) | (refine Below.trans ?_ (Below.mono (by assumption) (by first | omega | (simp; try omega))))))⟩ ?_
      rintro W1 ⟨hp, hbel⟩
      go_wp2_with fail
      refine (c _ hbel).mono ?_
      rintro e W2 ⟨A, cap, rfl, hrd, hb⟩
      have hlt := hp.lt
      replace hp := hp.below hb
      replace hbel := hbel.trans (hb.mono hbel.size)
      clear hb
      obtain ⟨ad, x, rfl, hx1, hx2, hx3⟩ := hrd 0 (by simp)
      obtain ⟨ad1, y, e1, hy1, hy2, hy3⟩ := hrd 1 (by simp)
      obtain rfl := Option.some.inj e1
      obtain ⟨ad2, z, e2, hz1, hz2, hz3⟩ := hrd 2 (by simp)
      obtain rfl := Option.some.inj e2
      have hV : Fv3 x y z ⟨a, b, d⟩ := ⟨hx3, hy3, hz3⟩
      have g0 : W2.cell? ad = some (.float .f32 x) := by simpa [Addr.add] using hx2
      have g1 : W2.cell? { block := ad.block, off := ad.off + 1 } = some (.float .f32 y) := by simpa [Addr.add] using hy2
      have g2 : W2.cell? { block := ad.block, off := ad.off + 2 } = some (.float .f32 z) := by simpa [Addr.add] using hz2
      have i0 : (0 : Int) < ((3 : Nat) : Int) := by decide
      have i1 : (1 : Int) < ((3 : Nat) : Int) := by decide
      have i2 : (2 : Int) < ((3 : Nat) : Int) := by decide
      obtain ⟨⟨c0, c1, c2⟩, fz⟩ := id hp
      have HV := Lib.hid (And.intro hV hp)
      clear c hrd hx3 hy3 hz3 e1 e2 hx1 hy1 hz1 hx2 hy2 hz2 hp hV
      go_wp2_with fail
      go_region
      go_wp2_with fail
      have hp := HV.out.2
      obtain ⟨W3, hW3⟩ : ∃ W3, W3 = (((W2.setCell ⟨w.heap.size, 0, none⟩ (.float .f32 x)).setCell ⟨w.heap.size, 1, none⟩ (.float .f32 y)).setCell ⟨w.heap.size, 2, none⟩ (.float .f32 z)) := ⟨_, rfl⟩
      have h3' : Has3 W3 w.heap.size x y z := by rw [hW3]; exact hp.1.made _ _ _
      have hb3 : Below w.heap.size w W3 := by rw [hW3]; exact ((hbel.setCell (Nat.le_refl _) _).setCell (Nat.le_refl _) _).setCell (Nat.le_refl _) _
      rw [← hW3]
      obtain ⟨d0, d1, d2⟩ := h3'
      clear hW3 hp hbel
      (try simp only [Exit.inBlock, Exit.then])
      refine bodyPost_ret (v := .tuple #[vec x y z, .bool true]) (by simp [results, Tryd.results17, go_sem, d0, d1, d2]) rfl ?_
      exact ⟨⟨_, _, _, rfl, HV.out.1⟩, by first | exact hb3 | exact hb3.drew⟩
    · obtain ⟨v1, v2⟩ := vec_not h3
      rw [v1, v2]
      go_enter Tryd.func17, Tryd.ntmps17
      go_upto_region 1 with fail
      refine wp_name (fun wr => HasF3 wr w.heap.size 0 0 0 ∧ Below w.heap.size w wr) ⟨⟨⟨by go_simp, by go_simp, by go_simp⟩, fun o => by go_simp⟩, by (repeat (first | exact Below.refl _ _ | (refine below_drewN ?_ _) | (refine Below.drew ?_) | (refine Below.setCell ?_ (by first | omega | (simp; try omega)) _) | (refine Below.alloc ?_ (by first | omega | (simp; try omega)) _) | (refine Below.trans ?_ (Below.mono (by assumption) (by first | omega | (simp; try omega))))))⟩ ?_
      rintro W1 ⟨hp, hbel⟩
      go_wp2_with fail
      refine (c _ hbel).mono ?_
      rintro e W2 ⟨A, cap, rfl, hrd, hb⟩
      have hlt := hp.lt
      replace hp := hp.below hb
      replace hbel := hbel.trans (hb.mono hbel.size)
      clear hb
      obtain ⟨⟨c0, c1, c2⟩, fz⟩ := id hp
      clear c hrd
      go_wp2_with fail
      obtain ⟨W3, hW3⟩ : ∃ W3, W3 = (((W2.setCell ⟨w.heap.size, 0, none⟩ (.float .f32 0)).setCell ⟨w.heap.size, 1, none⟩ (.float .f32 0)).setCell ⟨w.heap.size, 2, none⟩ (.float .f32 0)) := ⟨_, rfl⟩
      have h3' : Has3 W3 w.heap.size 0 0 0 := by rw [hW3]; exact hp.1.made _ _ _
      have hb3 : Below w.heap.size w W3 := by rw [hW3]; exact ((hbel.setCell (Nat.le_refl _) _).setCell (Nat.le_refl _) _).setCell (Nat.le_refl _) _
      rw [← hW3]
      obtain ⟨d0, d1, d2⟩ := h3'
      clear hW3 hp hbel
      (try simp only [Exit.inBlock, Exit.then])
      refine bodyPost_ret (v := .tuple #[vec 0 0 0, .bool false]) (by simp [results, Tryd.results17, go_sem, d0, d1, d2]) rfl ?_
      exact ⟨⟨_, _, _, rfl, fv00⟩, by first | exact hb3 | exact hb3.drew⟩

set_option maxRecDepth 20000 in
set_option maxHeartbeats 4000000 in
theorem c_impl_ReadVector {w : World} {s : ByteArray} (hs : s.size ≤ 1048576) (ht : Db w) (he : Errs w) (hm : Mx w) :
    Calls Tryd.prog 11 #[.string s] w (RetVB (vecOf (resNs s)) (isVec3 (resNs s)) w) := by
  have c : ∀ w', Below w.heap.size w w' → Calls Tryd.prog 6 #[.string s] w' (RetRdF (resNs s) w') := fun w' hb =>
    (c_impl_ReadNumbers hs (ht.on hb (Nat.le_refl _)) (he.on hb (Nat.le_refl _)) (hm.on hb (Nat.le_refl _))).mono (by
      rintro e w2 ⟨A, cap, rfl, hown, hb2⟩
      exact ⟨A, cap, rfl, hown.rd, hb2⟩)
  clear ht he hm
  cases hr : resNs s with
  | none =>
    rw [hr] at c
    clear hr
    show Calls _ _ _ _ (RetVB V00 false w)
    go_enter Tryd.func11, Tryd.ntmps11
    go_upto_region 1 with fail
    refine wp_name (fun wr => HasF3 wr w.heap.size 0 0 0 ∧ Below w.heap.size w wr) ⟨⟨⟨by go_simp, by go_simp, by go_simp⟩, fun o => by go_simp⟩, by (repeat (first | exact Below.refl _ _ | (refine below_drewN ?_ _) | (refine Below.drew ?_) | (refine Below.setCell ?_ (by first | omega | (simp; try omega)) _) | (refine Below.alloc ?_ (by first | omega | (simp; try omega)) _) | (refine Below.trans ?_ (Below.mono (by assumption) (by first | omega | (simp; try omega))))))⟩ ?_
    rintro W1 ⟨hp, hbel⟩
    go_wp2_with fail
    refine (c _ hbel).mono ?_
    rintro e W2 ⟨A, cap, rfl, hrd, hb⟩
    have hlt := hp.lt
    replace hp := hp.below hb
    replace hbel := hbel.trans (hb.mono hbel.size)
    clear hb
    obtain ⟨⟨c0, c1, c2⟩, fz⟩ := id hp
    clear c hrd
    go_wp2_with fail
    obtain ⟨W3, hW3⟩ : ∃ W3, W3 = (((W2.setCell ⟨w.heap.size, 0, none⟩ (.float .f32 0)).setCell ⟨w.heap.size, 1, none⟩ (.float .f32 0)).setCell ⟨w.heap.size, 2, none⟩ (.float .f32 0)) := ⟨_, rfl⟩
    have h3' : Has3 W3 w.heap.size 0 0 0 := by rw [hW3]; exact hp.1.made _ _ _
    have hb3 : Below w.heap.size w W3 := by rw [hW3]; exact ((hbel.setCell (Nat.le_refl _) _).setCell (Nat.le_refl _) _).setCell (Nat.le_refl _) _
    rw [← hW3]
    obtain ⟨d0, d1, d2⟩ := h3'
    clear hW3 hp hbel
    (try simp only [Exit.inBlock, Exit.then])
    refine bodyPost_ret (v := .tuple #[vec 0 0 0, .bool false]) (by simp [results, Tryd.results11, go_sem, d0, d1, d2]) rfl ?_
    exact ⟨⟨_, _, _, rfl, fv00⟩, by first | exact hb3 | exact hb3.drew⟩
  | some cs =>
    rw [hr] at c
    clear hr
    by_cases h3 : cs.length = 3
    · obtain ⟨a, b, d, rfl⟩ := list3 h3
      show Calls _ _ _ _ (RetVB ⟨a, b, d⟩ true w)
      go_enter Tryd.func11, Tryd.ntmps11
      go_upto_region 1 with fail
      refine wp_name (fun wr => HasF3 wr w.heap.size 0 0 0 ∧ Below w.heap.size w wr) ⟨⟨⟨by go_simp, by go_simp, by go_simp⟩, fun o => by go_simp⟩, by (repeat (first | exact Below.refl _ _ | (refine below_drewN ?_ _) | (refine Below.drew ?_) | (refine Below.setCell ?_ (by first | omega | (simp; try omega)) _) | (refine Below.alloc ?_ (by first | omega | (simp; try omega)) _) | (refine Below.trans ?_ (Below.mono (by assumption) (by first | omega | (simp; try omega))))))⟩ ?_
      rintro W1 ⟨hp, hbel⟩
      go_wp2_with fail
      refine (c _ hbel).mono ?_
      rintro e W2 ⟨A, cap, rfl, hrd, hb⟩
      have hlt := hp.lt
      replace hp := hp.below hb
      replace hbel := hbel.trans (hb.mono hbel.size)
      clear hb
      obtain ⟨ad, x, rfl, hx1, hx2, hx3⟩ := hrd 0 (by simp)
      obtain ⟨ad1, y, e1, hy1, hy2, hy3⟩ := hrd 1 (by simp)
      obtain rfl := Option.some.inj e1
      obtain ⟨ad2, z, e2, hz1, hz2, hz3⟩ := hrd 2 (by simp)
      obtain rfl := Option.some.inj e2
      have hV : Fv3 x y z ⟨a, b, d⟩ := ⟨hx3, hy3, hz3⟩
      have g0 : W2.cell? ad = some (.float .f32 x) := by simpa [Addr.add] using hx2
      have g1 : W2.cell? { block := ad.block, off := ad.off + 1 } = some (.float .f32 y) := by simpa [Addr.add] using hy2
      have g2 : W2.cell? { block := ad.block, off := ad.off + 2 } = some (.float .f32 z) := by simpa [Addr.add] using hz2
      have i0 : (0 : Int) < ((3 : Nat) : Int) := by decide
      have i1 : (1 : Int) < ((3 : Nat) : Int) := by decide
      have i2 : (2 : Int) < ((3 : Nat) : Int) := by decide
      obtain ⟨⟨c0, c1, c2⟩, fz⟩ := id hp
      have HV := Lib.hid (And.intro hV hp)
      clear c hrd hx3 hy3 hz3 e1 e2 hx1 hy1 hz1 hx2 hy2 hz2 hp hV
      go_wp2_with fail
      go_region
      go_wp2_with fail
      have hp := HV.out.2
      obtain ⟨W3, hW3⟩ : ∃ W3, W3 = (((W2.setCell ⟨w.heap.size, 0, none⟩ (.float .f32 x)).setCell ⟨w.heap.size, 1, none⟩ (.float .f32 y)).setCell ⟨w.heap.size, 2, none⟩ (.float .f32 z)) := ⟨_, rfl⟩
      have h3' : Has3 W3 w.heap.size x y z := by rw [hW3]; exact hp.1.made _ _ _
      have hb3 : Below w.heap.size w W3 := by rw [hW3]; exact ((hbel.setCell (Nat.le_refl _) _).setCell (Nat.le_refl _) _).setCell (Nat.le_refl _) _
      rw [← hW3]
      obtain ⟨d0, d1, d2⟩ := h3'
      clear hW3 hp hbel
      (try simp only [Exit.inBlock, Exit.then])
      refine bodyPost_ret (v := .tuple #[vec x y z, .bool true]) (by simp [results, Tryd.results11, go_sem, d0, d1, d2]) rfl ?_
      exact ⟨⟨_, _, _, rfl, HV.out.1⟩, by first | exact hb3 | exact hb3.drew⟩
    · obtain ⟨v1, v2⟩ := vec_not h3
      rw [v1, v2]
      go_enter Tryd.func11, Tryd.ntmps11
      go_upto_region 1 with fail
      refine wp_name (fun wr => HasF3 wr w.heap.size 0 0 0 ∧ Below w.heap.size w wr) ⟨⟨⟨by go_simp, by go_simp, by go_simp⟩, fun o => by go_simp⟩, by (repeat (first | exact Below.refl _ _ | (refine below_drewN ?_ _) | (refine Below.drew ?_) | (refine Below.setCell ?_ (by first | omega | (simp; try omega)) _) | (refine Below.alloc ?_ (by first | omega | (simp; try omega)) _) | (refine Below.trans ?_ (Below.mono (by assumption) (by first | omega | (simp; try omega))))))⟩ ?_
      rintro W1 ⟨hp, hbel⟩
      go_wp2_with fail
      refine (c _ hbel).mono ?_
      rintro e W2 ⟨A, cap, rfl, hrd, hb⟩
      have hlt := hp.lt
      replace hp := hp.below hb
      replace hbel := hbel.trans (hb.mono hbel.size)
      clear hb
      obtain ⟨⟨c0, c1, c2⟩, fz⟩ := id hp
      clear c hrd
      go_wp2_with fail
      obtain ⟨W3, hW3⟩ : ∃ W3, W3 = (((W2.setCell ⟨w.heap.size, 0, none⟩ (.float .f32 0)).setCell ⟨w.heap.size, 1, none⟩ (.float .f32 0)).setCell ⟨w.heap.size, 2, none⟩ (.float .f32 0)) := ⟨_, rfl⟩
      have h3' : Has3 W3 w.heap.size 0 0 0 := by rw [hW3]; exact hp.1.made _ _ _
      have hb3 : Below w.heap.size w W3 := by rw [hW3]; exact ((hbel.setCell (Nat.le_refl _) _).setCell (Nat.le_refl _) _).setCell (Nat.le_refl _) _
      rw [← hW3]
      obtain ⟨d0, d1, d2⟩ := h3'
      clear hW3 hp hbel
      (try simp only [Exit.inBlock, Exit.then])
      refine bodyPost_ret (v := .tuple #[vec 0 0 0, .bool false]) (by simp [results, Tryd.results11, go_sem, d0, d1, d2]) rfl ?_
      exact ⟨⟨_, _, _, rfl, fv00⟩, by first | exact hb3 | exact hb3.drew⟩

end Go.Proofs.YteibkechlkjpgabDoor
