/-
  Contracts of the straight functions on vectors and turns, of the program's and of the reference's: both compute the same classes. No condition.
-/
import Derived.Test.YteibkechlkjpgabDoorVa
set_option linter.unusedVariables false
namespace Go.Proofs.YteibkechlkjpgabDoor
open Go.RowKit Go.Proofs.YteibkechlkjpgabDoor.Fl

/-! ### what they compute, on classes -/
def A (x y : Option Nat) : Option Nat := fop .add .f32 x y
def B (x y : Option Nat) : Option Nat := fop .sub .f32 x y
def M (x y : Option Nat) : Option Nat := fop .mul .f32 x y
def D (x y : Option Nat) : Option Nat := fop .quo .f32 x y
def addC (u v : V3) : V3 := ⟨A u.x v.x, A u.y v.y, A u.z v.z⟩
def lessC (u v : V3) : V3 := ⟨B u.x v.x, B u.y v.y, B u.z v.z⟩
def scaleC (u : V3) (s : Option Nat) : V3 := ⟨M u.x s, M u.y s, M u.z s⟩
def overC (u : V3) (s : Option Nat) : V3 := ⟨D u.x s, D u.y s, D u.z s⟩
def innerC (u v : V3) : Option Nat := A (A (M u.x v.x) (M u.y v.y)) (M u.z v.z)
def crossC (u v : V3) : V3 := ⟨B (M u.y v.z) (M u.z v.y), B (M u.z v.x) (M u.x v.z), B (M u.x v.y) (M u.y v.x)⟩
def inner4C (s t : V4) : Option Nat := A (A (A (M s.w t.w) (M s.x t.x)) (M s.y t.y)) (M s.z t.z)
def mulC (s t : V4) : V4 :=
  ⟨B (B (B (M s.w t.w) (M s.x t.x)) (M s.y t.y)) (M s.z t.z), B (A (A (M s.w t.x) (M s.x t.w)) (M s.y t.z)) (M s.z t.y),
    A (A (B (M s.w t.y) (M s.x t.z)) (M s.y t.w)) (M s.z t.x), A (B (A (M s.w t.z) (M s.x t.y)) (M s.y t.x)) (M s.z t.w)⟩
def N (x : Option Nat) : Option Nat := fneg .f32 x
def invC (t : V4) : V4 := ⟨t.w, N t.x, N t.y, N t.z⟩
def oppC (t : V4) : V4 := ⟨N t.w, N t.x, N t.y, N t.z⟩
def noC : V4 := ⟨some 1065353216, some 0, some 0, some 0⟩
def axisC (t : V4) : V3 := ⟨t.x, t.y, t.z⟩
def turnC (w : Option Nat) (v : V3) : V4 := ⟨w, v.x, v.y, v.z⟩

theorem neg_run (x : Nat) (w : World) : (Op.unary .neg (.float .f32 x)).run Tryd.prog w = .ok (.float .f32 (Op.negFloat .f32 x)) w := rfl

end Go.Proofs.YteibkechlkjpgabDoor
