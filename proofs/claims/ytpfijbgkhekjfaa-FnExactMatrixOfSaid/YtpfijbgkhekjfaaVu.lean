/-
  What stores of vectors and turns leave, and what keeps it. No condition.
-/
import Derived.Test.YtpfijbgkhekjfaaVf
import Derived.Test.YtpfijbgkhekjfaaFg
set_option linter.unusedVariables false
namespace Go.Proofs.Ytpfijbgkhekjfaa
open Go.RowKit Go.Proofs.Ytpfijbgkhekjfaa.Fl

theorem Has3.into {W W' : World} {g b x y z : Nat} (h : Has3 W b x y z) (k : Into g W W') (hne : b ≠ g) : Has3 W' b x y z :=
  ⟨(k.cell (p := ⟨b, 0, none⟩) hne).trans h.1, (k.cell (p := ⟨b, 1, none⟩) hne).trans h.2.1, (k.cell (p := ⟨b, 2, none⟩) hne).trans h.2.2⟩
theorem Has4.into {W W' : World} {g b p x y z : Nat} (h : Has4 W b p x y z) (k : Into g W W') (hne : b ≠ g) : Has4 W' b p x y z :=
  ⟨(k.cell (p := ⟨b, 0, none⟩) hne).trans h.1, (k.cell (p := ⟨b, 1, none⟩) hne).trans h.2.1, (k.cell (p := ⟨b, 2, none⟩) hne).trans h.2.2.1, (k.cell (p := ⟨b, 3, none⟩) hne).trans h.2.2.2⟩
theorem HasF3.into {W W' : World} {g b x y z : Nat} (h : HasF3 W b x y z) (k : Into g W W') (hne : b ≠ g) : HasF3 W' b x y z :=
  ⟨h.1.into k hne, fun o => (k.frozen _).trans (h.2 o)⟩
theorem HasF4.into {W W' : World} {g b p x y z : Nat} (h : HasF4 W b p x y z) (k : Into g W W') (hne : b ≠ g) : HasF4 W' b p x y z :=
  ⟨h.1.into k hne, fun o => (k.frozen _).trans (h.2 o)⟩

/-- A block of three, of four floats, whichever. -/
def Any3 (W : World) (b : Nat) : Prop := ∃ x y z, HasF3 W b x y z
def Any4 (W : World) (b : Nat) : Prop := ∃ p x y z, HasF4 W b p x y z

theorem Any3.below {W W' : World} {b : Nat} (h : Any3 W b) (hb : Below W.heap.size W W') : Any3 W' b := by
  obtain ⟨x, y, z, h⟩ := h; exact ⟨x, y, z, h.below hb⟩
theorem Any4.below {W W' : World} {b : Nat} (h : Any4 W b) (hb : Below W.heap.size W W') : Any4 W' b := by
  obtain ⟨p, x, y, z, h⟩ := h; exact ⟨p, x, y, z, h.below hb⟩
theorem Any3.into {W W' : World} {g b : Nat} (h : Any3 W b) (k : Into g W W') : Any3 W' b := by
  obtain ⟨x, y, z, h⟩ := h
  by_cases e : b = g
  · subst e
    obtain ⟨x', hx⟩ := k.keep 0 _ _ h.1.1
    obtain ⟨y', hy⟩ := k.keep 1 _ _ h.1.2.1
    obtain ⟨z', hz⟩ := k.keep 2 _ _ h.1.2.2
    exact ⟨x', y', z', ⟨hx, hy, hz⟩, fun o => (k.frozen _).trans (h.2 o)⟩
  · exact ⟨x, y, z, h.into k e⟩
theorem Any4.into {W W' : World} {g b : Nat} (h : Any4 W b) (k : Into g W W') : Any4 W' b := by
  obtain ⟨p, x, y, z, h⟩ := h
  by_cases e : b = g
  · subst e
    obtain ⟨p', hp⟩ := k.keep 0 _ _ h.1.1
    obtain ⟨x', hx⟩ := k.keep 1 _ _ h.1.2.1
    obtain ⟨y', hy⟩ := k.keep 2 _ _ h.1.2.2.1
    obtain ⟨z', hz⟩ := k.keep 3 _ _ h.1.2.2.2
    exact ⟨p', x', y', z', ⟨hp, hx, hy, hz⟩, fun o => (k.frozen _).trans (h.2 o)⟩
  · exact ⟨p, x, y, z, h.into k e⟩

theorem Own3.into {W W' : World} {B g b : Nat} (h : Own3 W B b) (k : Into g W W') : Own3 W' B b := by
  obtain ⟨h1, ⟨x, y, z, h2⟩, h3⟩ := h
  obtain ⟨x', y', z', h4, h5⟩ := Any3.into ⟨x, y, z, h2, h3⟩ k
  exact ⟨h1, ⟨x', y', z', h4⟩, h5⟩
theorem Own4.into {W W' : World} {B g b : Nat} (h : Own4 W B b) (k : Into g W W') : Own4 W' B b := by
  obtain ⟨h1, ⟨p, x, y, z, h2⟩, h3⟩ := h
  obtain ⟨p', x', y', z', h4, h5⟩ := Any4.into ⟨p, x, y, z, h2, h3⟩ k
  exact ⟨h1, ⟨p', x', y', z', h4⟩, h5⟩

/-- What was stored into a block. -/
def isPut3 (V : V3) : Nat → World → Prop := fun g w => ∃ x y z, HasF3 w g x y z ∧ Fv3 x y z V
def isPut4 (T : V4) : Nat → World → Prop := fun g w => ∃ p x y z, HasF4 w g p x y z ∧ Fv4 p x y z T
/-- Two turns as a tuple. -/
def isTup2 (S T : V4) : Value → World → Prop := fun v _ => ∃ p x y z p' x' y' z', v = .tuple #[turn p x y z, turn p' x' y' z'] ∧ Fv4 p x y z S ∧ Fv4 p' x' y' z' T

theorem local_put3 (V : V3) : Local (isPut3 V) :=
  ⟨fun g w w' hb ⟨x, y, z, h, hv⟩ => ⟨x, y, z, h.below hb, hv⟩, fun g g' w w' hne k ⟨x, y, z, h, hv⟩ => ⟨x, y, z, h.into k (Ne.symm hne), hv⟩⟩
theorem local_put4 (T : V4) : Local (isPut4 T) :=
  ⟨fun g w w' hb ⟨p, x, y, z, h, hv⟩ => ⟨p, x, y, z, h.below hb, hv⟩, fun g g' w w' hne k ⟨p, x, y, z, h, hv⟩ => ⟨p, x, y, z, h.into k (Ne.symm hne), hv⟩⟩
theorem good_put3 (Fr : Nat → Prop) (d : Nat) (V : V3) : (FD.put d (isPut3 V)).good Fr := local_put3 V
theorem good_put4 (Fr : Nat → Prop) (d : Nat) (T : V4) : (FD.put d (isPut4 T)).good Fr := local_put4 T
theorem good_isV (Fr : Nat → Prop) (d : Nat) (c : Value) : (FD.val d (isV c)).good Fr := ⟨mono_isV c, fun _ _ _ _ _ _ h => h⟩
theorem good_isVec (Fr : Nat → Prop) (d : Nat) (V : V3) : (FD.val d (isVec V)).good Fr := ⟨mono_isVec V, fun _ _ _ _ _ _ h => h⟩
theorem good_isTurn (Fr : Nat → Prop) (d : Nat) (V : V4) : (FD.val d (isTurn V)).good Fr := ⟨mono_isTurn V, fun _ _ _ _ _ _ h => h⟩
theorem good_isFlt (Fr : Nat → Prop) (d : Nat) (k : FloatKind) (c : Option Nat) : (FD.val d (isFlt k c)).good Fr := ⟨mono_isFlt k c, fun _ _ _ _ _ _ h => h⟩
theorem good_isTup2 (Fr : Nat → Prop) (d : Nat) (S T : V4) : (FD.val d (isTup2 S T)).good Fr := ⟨fun _ _ _ _ h => h, fun _ _ _ _ _ _ h => h⟩
theorem good_isOwn3 (Fr : Nat → Prop) (d : Nat) (B : Nat) : (FD.val d (isOwn3 B)).good Fr := ⟨mono_isOwn3 B, fun _ _ _ _ _ k ⟨g, e, h⟩ => ⟨g, e, h.into k⟩⟩
theorem good_isOwn4 (Fr : Nat → Prop) (d : Nat) (B : Nat) : (FD.val d (isOwn4 B)).good Fr := ⟨mono_isOwn4 B, fun _ _ _ _ _ k ⟨g, e, h⟩ => ⟨g, e, h.into k⟩⟩

/-- Three, four stores into a block of one's own. -/
theorem into_put3 {W : World} {g p q r : Nat} (x y z : Nat) (h : HasF3 W g p q r) :
    Into g W (((W.setCell ⟨g, 0, none⟩ (.float .f32 x)).setCell ⟨g, 1, none⟩ (.float .f32 y)).setCell ⟨g, 2, none⟩ (.float .f32 z)) := by
  obtain ⟨⟨h1, h2, h3⟩, _⟩ := h
  exact ((into_set x h1).trans (into_set (b0 := q) y (by go_simp))).trans (into_set (b0 := r) z (by go_simp))
theorem into_put4 {W : World} {g p q r s : Nat} (t x y z : Nat) (h : HasF4 W g p q r s) :
    Into g W ((((W.setCell ⟨g, 0, none⟩ (.float .f32 t)).setCell ⟨g, 1, none⟩ (.float .f32 x)).setCell ⟨g, 2, none⟩ (.float .f32 y)).setCell ⟨g, 3, none⟩ (.float .f32 z)) := by
  obtain ⟨⟨h1, h2, h3, h4⟩, _⟩ := h
  exact (((into_set t h1).trans (into_set (b0 := q) x (by go_simp))).trans (into_set (b0 := r) y (by go_simp))).trans (into_set (b0 := s) z (by go_simp))
theorem has_put3 {W : World} {g p q r : Nat} (x y z : Nat) (h : HasF3 W g p q r) :
    HasF3 (((W.setCell ⟨g, 0, none⟩ (.float .f32 x)).setCell ⟨g, 1, none⟩ (.float .f32 y)).setCell ⟨g, 2, none⟩ (.float .f32 z)) g x y z :=
  ⟨h.1.made x y z, fun o => ((into_put3 x y z h).frozen _).trans (h.2 o)⟩
theorem has_put4 {W : World} {g p q r s : Nat} (t x y z : Nat) (h : HasF4 W g p q r s) :
    HasF4 ((((W.setCell ⟨g, 0, none⟩ (.float .f32 t)).setCell ⟨g, 1, none⟩ (.float .f32 x)).setCell ⟨g, 2, none⟩ (.float .f32 y)).setCell ⟨g, 3, none⟩ (.float .f32 z)) g t x y z :=
  ⟨h.1.made t x y z, fun o => ((into_put4 t x y z h).frozen _).trans (h.2 o)⟩

/-- Two turns come back. -/
def RetTT (S T : V4) (w : World) (e : Ending) (w' : World) : Prop := (∃ p x y z p' x' y' z', e = .returned (.tuple #[turn p x y z, turn p' x' y' z']) ∧ Fv4 p x y z S ∧ Fv4 p' x' y' z' T) ∧ Below w.heap.size w w'

theorem ret_turn2 {P : Program} {fn : Func} {a : Act} {w W : World} {p x y z p' x' y' z' : Nat} {S T : V4} (h : Fv4 p x y z S) (k : Fv4 p' x' y' z' T)
    (hr : (results fn a.tmps).run P w = .ok (.tuple #[turn p x y z, turn p' x' y' z']) w) (hd : a.defers = []) (hb : Below W.heap.size W w) : bodyPost P fn (RetTT S T W) .ret a w :=
  bodyPost_ret hr hd ⟨⟨_, _, _, _, _, _, _, _, rfl, h, k⟩, hb⟩

end Go.Proofs.Ytpfijbgkhekjfaa
