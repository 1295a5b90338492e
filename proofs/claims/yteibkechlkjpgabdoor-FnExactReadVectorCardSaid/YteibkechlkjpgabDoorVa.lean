/-
  Contracts of the small functions on vectors and turns. No condition.
-/
import Derived.Test.YteibkechlkjpgabDoorWa
import Derived.Test.YteibkechlkjpgabDoorFb
import Derived.Test.YteibkechlkjpgabDoorFd
import Derived.Lib.Hide
import Derived.Deep.RegionHeld3
import Derived.Deep.DeepCutAuto
import Derived.Laws.Rows
set_option linter.unusedVariables false
namespace Go.Proofs.YteibkechlkjpgabDoor
open Go.RowKit Go.Proofs.YteibkechlkjpgabDoor.Fl

/-- Three float32 as a struct; four. -/
abbrev vec (x y z : Nat) : Value := .agg #[.float .f32 x, .float .f32 y, .float .f32 z]
abbrev turn (w x y z : Nat) : Value := .agg #[.float .f32 w, .float .f32 x, .float .f32 y, .float .f32 z]

/-- Their classes. -/
structure V3 where
  x : Option Nat
  y : Option Nat
  z : Option Nat
structure V4 where
  w : Option Nat
  x : Option Nat
  y : Option Nat
  z : Option Nat

structure Fv3 (x y z : Nat) (v : V3) : Prop where
  x : Fv .f32 x v.x
  y : Fv .f32 y v.y
  z : Fv .f32 z v.z
structure Fv4 (w x y z : Nat) (t : V4) : Prop where
  w : Fv .f32 w t.w
  x : Fv .f32 x t.x
  y : Fv .f32 y t.y
  z : Fv .f32 z t.z

def RetV (v : V3) (w : World) (e : Ending) (w' : World) : Prop := (∃ x y z, e = .returned (vec x y z) ∧ Fv3 x y z v) ∧ Below w.heap.size w w'
def RetT (t : V4) (w : World) (e : Ending) (w' : World) : Prop := (∃ p x y z, e = .returned (turn p x y z) ∧ Fv4 p x y z t) ∧ Below w.heap.size w w'
def RetF (k : FloatKind) (c : Option Nat) (w : World) (e : Ending) (w' : World) : Prop := (∃ r, e = .returned (.float k r) ∧ Fv k r c) ∧ Below w.heap.size w w'
def RetB (b : Bool) (w : World) (e : Ending) (w' : World) : Prop := e = .returned (.bool b) ∧ Below w.heap.size w w'

theorem ret_vec {P : Program} {fn : Func} {a : Act} {w W : World} {x y z : Nat} {v : V3} (h1 : Fv .f32 x v.x) (h2 : Fv .f32 y v.y) (h3 : Fv .f32 z v.z)
    (hr : (results fn a.tmps).run P w = .ok (vec x y z) w) (hd : a.defers = []) (hb : Below W.heap.size W w) : bodyPost P fn (RetV v W) .ret a w :=
  bodyPost_ret hr hd ⟨⟨_, _, _, rfl, ⟨h1, h2, h3⟩⟩, hb⟩
theorem ret_turn {P : Program} {fn : Func} {a : Act} {w W : World} {p x y z : Nat} {t : V4} (h0 : Fv .f32 p t.w) (h1 : Fv .f32 x t.x) (h2 : Fv .f32 y t.y) (h3 : Fv .f32 z t.z)
    (hr : (results fn a.tmps).run P w = .ok (turn p x y z) w) (hd : a.defers = []) (hb : Below W.heap.size W w) : bodyPost P fn (RetT t W) .ret a w :=
  bodyPost_ret hr hd ⟨⟨_, _, _, _, rfl, ⟨h0, h1, h2, h3⟩⟩, hb⟩
theorem ret_flt {P : Program} {fn : Func} {a : Act} {w W : World} {k : FloatKind} {r : Nat} {c : Option Nat} (h1 : Fv k r c)
    (hr : (results fn a.tmps).run P w = .ok (.float k r) w) (hd : a.defers = []) (hb : Below W.heap.size W w) : bodyPost P fn (RetF k c W) .ret a w :=
  bodyPost_ret hr hd ⟨⟨_, rfl, h1⟩, hb⟩

/-- A world that has only grown: old cells read as before. -/
theorem bcell {W w1 : World} (hb : Below W.heap.size W w1) : (∀ b o, b < W.heap.size → w1.cell? ⟨b, o, none⟩ = W.cell? ⟨b, o, none⟩) ∧ (∀ b o, b < W.heap.size → w1.frozen? ⟨b, o, none⟩ = W.frozen? ⟨b, o, none⟩) :=
  ⟨fun b o h => hb.cell (p := ⟨b, o, none⟩) h, fun b o h => hb.frozen (p := ⟨b, o, none⟩) h⟩

theorem sameFloat_b {a b : Nat} {c : Option Nat} (ha : Fv .f64 a c) (hb : Fv .f64 b c) (w : World) :
    Calls Tryd.prog 16 #[.float .f64 a, .float .f64 b] w fun e w' => e = .returned (.bool true) ∧ ∃ n, w' = w.drewN n := sameFloat_any a b c ha hb w


set_option maxRecDepth 10000 in
theorem eqVector_any {x y z x' y' z' : Nat} {v : V3} (h : Fv3 x y z v) (k : Fv3 x' y' z' v) (w : World) :
    Calls Tryd.prog 12 #[vec x y z, vec x' y' z'] w (RetB true w) := by
  obtain ⟨hx, hy, hz⟩ := h
  obtain ⟨kx, ky, kz⟩ := k
  go_enter Tryd.func12, Tryd.ntmps12
  go_wp2_with (first | ((with_reducible apply upon_float_conv); exact f32some; exact Tryd.underlying39; assumption; exact fits_widen (by assumption); intro r n hr; (try rw [World.drewN_drewN]); simp only [Act.put, List.setIfInBounds_toArray, List.set_cons_zero, List.set_cons_succ]) | (go_at_call 16; refine (sameFloat_b (by assumption) (by assumption) _).mono ?_; rintro e w' ⟨rfl, m, rfl⟩))
  go_ret
  exact ⟨rfl, by (repeat (first | exact Below.refl _ _ | (refine below_drewN ?_ _) | (refine Below.drew ?_) | (refine Below.setCell ?_ (by first | omega | (simp; try omega)) _) | (refine Below.alloc ?_ (by first | omega | (simp; try omega)) _) | (refine Below.trans ?_ (Below.mono (by assumption) (by first | omega | (simp; try omega))))))⟩

/-! ### blocks of three and four floats -/
def Has3 (W : World) (b x y z : Nat) : Prop :=
  W.cell? ⟨b, 0, none⟩ = some (.float .f32 x) ∧ W.cell? ⟨b, 1, none⟩ = some (.float .f32 y) ∧ W.cell? ⟨b, 2, none⟩ = some (.float .f32 z)

theorem Has3.lt {W : World} {b x y z : Nat} (h : Has3 W b x y z) : b < W.heap.size := block_lt_of_cell h.1

theorem Has3.below {W W' : World} {b x y z : Nat} (h : Has3 W b x y z) (hb : Below W.heap.size W W') : Has3 W' b x y z := by
  have hl := h.lt
  exact ⟨(hb.cell (p := ⟨b, 0, none⟩) hl).trans h.1, (hb.cell (p := ⟨b, 1, none⟩) hl).trans h.2.1, (hb.cell (p := ⟨b, 2, none⟩) hl).trans h.2.2⟩

theorem Has3.alloc {W : World} {b x y z : Nat} (h : Has3 W b x y z) (o : Obj) : Has3 (W.alloc o) b x y z :=
  h.below ((Below.refl _ _).alloc (Nat.le_refl _) o)

theorem Has3.set {W : World} {b x y z : Nat} (h : Has3 W b x y z) (p : Addr) (v : Value) (hp : p.block ≠ b) : Has3 (W.setCell p v) b x y z :=
  ⟨(World.cell?_setCell_far W p ⟨b, 0, none⟩ v hp).trans h.1, (World.cell?_setCell_far W p ⟨b, 1, none⟩ v hp).trans h.2.1, (World.cell?_setCell_far W p ⟨b, 2, none⟩ v hp).trans h.2.2⟩

theorem Has3.made {W : World} {g p q r : Nat} (x y z : Nat) (h : Has3 W g p q r) :
    Has3 (((W.setCell ⟨g, 0, none⟩ (.float .f32 x)).setCell ⟨g, 1, none⟩ (.float .f32 y)).setCell ⟨g, 2, none⟩ (.float .f32 z)) g x y z := by
  obtain ⟨h1, h2, h3⟩ := h
  refine ⟨?_, ?_, ?_⟩ <;> go_simp

def Has4 (W : World) (b p x y z : Nat) : Prop :=
  W.cell? ⟨b, 0, none⟩ = some (.float .f32 p) ∧ W.cell? ⟨b, 1, none⟩ = some (.float .f32 x) ∧ W.cell? ⟨b, 2, none⟩ = some (.float .f32 y) ∧ W.cell? ⟨b, 3, none⟩ = some (.float .f32 z)

theorem Has4.lt {W : World} {b p x y z : Nat} (h : Has4 W b p x y z) : b < W.heap.size := block_lt_of_cell h.1

theorem Has4.below {W W' : World} {b p x y z : Nat} (h : Has4 W b p x y z) (hb : Below W.heap.size W W') : Has4 W' b p x y z := by
  have hl := h.lt
  exact ⟨(hb.cell (p := ⟨b, 0, none⟩) hl).trans h.1, (hb.cell (p := ⟨b, 1, none⟩) hl).trans h.2.1, (hb.cell (p := ⟨b, 2, none⟩) hl).trans h.2.2.1, (hb.cell (p := ⟨b, 3, none⟩) hl).trans h.2.2.2⟩

theorem Has4.set {W : World} {b p x y z : Nat} (h : Has4 W b p x y z) (a : Addr) (v : Value) (hp : a.block ≠ b) : Has4 (W.setCell a v) b p x y z :=
  ⟨(World.cell?_setCell_far W a ⟨b, 0, none⟩ v hp).trans h.1, (World.cell?_setCell_far W a ⟨b, 1, none⟩ v hp).trans h.2.1, (World.cell?_setCell_far W a ⟨b, 2, none⟩ v hp).trans h.2.2.1, (World.cell?_setCell_far W a ⟨b, 3, none⟩ v hp).trans h.2.2.2⟩

theorem Has4.made {W : World} {g p q r s : Nat} (p' x y z : Nat) (h : Has4 W g p q r s) :
    Has4 ((((W.setCell ⟨g, 0, none⟩ (.float .f32 p')).setCell ⟨g, 1, none⟩ (.float .f32 x)).setCell ⟨g, 2, none⟩ (.float .f32 y)).setCell ⟨g, 3, none⟩ (.float .f32 z)) g p' x y z := by
  obtain ⟨h1, h2, h3, h4⟩ := h
  refine ⟨?_, ?_, ?_, ?_⟩ <;> go_simp

theorem wp_name {P : Program} {c : Code} {Q : Exit → Act → World → Prop} {a : Act} {w : World} (R : World → Prop) (h0 : R w) (h : ∀ W, R W → c.wp P Q a W) : c.wp P Q a w := h w h0

/-- A block of the call's own: three floats, written or not. -/
def Own3 (W : World) (B g : Nat) : Prop := B ≤ g ∧ (∃ p q r, Has3 W g p q r) ∧ ∀ o, W.frozen? ⟨g, o, none⟩ = false

theorem Own3.below {W W' : World} {B g : Nat} (h : Own3 W B g) (hb : Below W.heap.size W W') : Own3 W' B g := by
  obtain ⟨h1, ⟨p, q, r, h2⟩, h3⟩ := h
  exact ⟨h1, ⟨p, q, r, h2.below hb⟩, fun o => (hb.frozen (p := ⟨g, o, none⟩) h2.lt).trans (h3 o)⟩

def Own4 (W : World) (B g : Nat) : Prop := B ≤ g ∧ (∃ p q r s, Has4 W g p q r s) ∧ ∀ o, W.frozen? ⟨g, o, none⟩ = false

theorem Own4.below {W W' : World} {B g : Nat} (h : Own4 W B g) (hb : Below W.heap.size W W') : Own4 W' B g := by
  obtain ⟨h1, ⟨p, q, r, s, h2⟩, h3⟩ := h
  exact ⟨h1, ⟨p, q, r, s, h2.below hb⟩, fun o => (hb.frozen (p := ⟨g, o, none⟩) h2.lt).trans (h3 o)⟩

theorem own4_new (W : World) (B : Nat) (hB : B ≤ W.heap.size) (p x y z : Nat) (t : TypeId) : Own4 (W.alloc (.cells #[.float .f32 p, .float .f32 x, .float .f32 y, .float .f32 z] t)) B W.heap.size :=
  ⟨hB, ⟨p, x, y, z, by simp, by simp, by simp, by simp⟩, fun o => by simp⟩

def isV (c : Value) : Value → World → Prop := fun v _ => v = c
def isVec (V : V3) : Value → World → Prop := fun v _ => ∃ x y z, v = vec x y z ∧ Fv3 x y z V
def isTurn (T : V4) : Value → World → Prop := fun v _ => ∃ p x y z, v = turn p x y z ∧ Fv4 p x y z T
def isFlt (k : FloatKind) (c : Option Nat) : Value → World → Prop := fun v _ => ∃ r, v = .float k r ∧ Fv k r c
def isOwn3 (B : Nat) : Value → World → Prop := fun v w => ∃ g, v = .pointer (some ⟨g, 0, none⟩) ∧ Own3 w B g

def isOwn4 (B : Nat) : Value → World → Prop := fun v w => ∃ g, v = .pointer (some ⟨g, 0, none⟩) ∧ Own4 w B g

theorem mono_isOwn4 (B : Nat) : Mono (isOwn4 B) := fun _ _ _ hb ⟨g, e, h⟩ => ⟨g, e, h.below hb⟩
theorem mono_isV (c : Value) : Mono (isV c) := fun _ _ _ _ h => h
theorem mono_isVec (V : V3) : Mono (isVec V) := fun _ _ _ _ h => h
theorem mono_isTurn (T : V4) : Mono (isTurn T) := fun _ _ _ _ h => h
theorem mono_isFlt (k : FloatKind) (c : Option Nat) : Mono (isFlt k c) := fun _ _ _ _ h => h
theorem mono_isOwn3 (B : Nat) : Mono (isOwn3 B) := fun _ _ _ hb ⟨g, e, h⟩ => ⟨g, e, h.below hb⟩

theorem own3_new (W : World) (B : Nat) (hB : B ≤ W.heap.size) (x y z : Nat) (t : TypeId) : Own3 (W.alloc (.cells #[.float .f32 x, .float .f32 y, .float .f32 z] t)) B W.heap.size :=
  ⟨hB, ⟨x, y, z, by simp, by simp, by simp⟩, fun o => by simp⟩

end Go.Proofs.YteibkechlkjpgabDoor
