/-
  Blocks of three and four floats that are not frozen: what they keep. No condition.
-/
import Derived.Test.YteibkechlkjpgabDoorVa
set_option linter.unusedVariables false
namespace Go.Proofs.YteibkechlkjpgabDoor
open Go.RowKit Go.Proofs.YteibkechlkjpgabDoor.Fl

def HasF3 (W : World) (b x y z : Nat) : Prop := Has3 W b x y z ∧ ∀ o, W.frozen? ⟨b, o, none⟩ = false
def HasF4 (W : World) (b p x y z : Nat) : Prop := Has4 W b p x y z ∧ ∀ o, W.frozen? ⟨b, o, none⟩ = false

theorem HasF3.lt {W : World} {b x y z : Nat} (h : HasF3 W b x y z) : b < W.heap.size := h.1.lt
theorem HasF4.lt {W : World} {b p x y z : Nat} (h : HasF4 W b p x y z) : b < W.heap.size := h.1.lt

theorem HasF3.below {W W' : World} {b x y z : Nat} (h : HasF3 W b x y z) (hb : Below W.heap.size W W') : HasF3 W' b x y z :=
  ⟨h.1.below hb, fun o => (hb.frozen (p := ⟨b, o, none⟩) h.lt).trans (h.2 o)⟩
theorem HasF4.below {W W' : World} {b p x y z : Nat} (h : HasF4 W b p x y z) (hb : Below W.heap.size W W') : HasF4 W' b p x y z :=
  ⟨h.1.below hb, fun o => (hb.frozen (p := ⟨b, o, none⟩) h.lt).trans (h.2 o)⟩

theorem HasF3.alloc {W : World} {b x y z : Nat} (h : HasF3 W b x y z) (o : Obj) : HasF3 (W.alloc o) b x y z := h.below ((Below.refl _ _).alloc (Nat.le_refl _) o)
theorem HasF4.alloc {W : World} {b p x y z : Nat} (h : HasF4 W b p x y z) (o : Obj) : HasF4 (W.alloc o) b p x y z := h.below ((Below.refl _ _).alloc (Nat.le_refl _) o)
theorem HasF3.drewN {W : World} {b x y z : Nat} (h : HasF3 W b x y z) (n : Nat) : HasF3 (W.drewN n) b x y z := h.below (below_drewN (Below.refl _ _) n)
theorem HasF4.drewN {W : World} {b p x y z : Nat} (h : HasF4 W b p x y z) (n : Nat) : HasF4 (W.drewN n) b p x y z := h.below (below_drewN (Below.refl _ _) n)

theorem HasF3.set {W : World} {b x y z : Nat} (h : HasF3 W b x y z) (p : Addr) (v : Value) (hp : p.block ≠ b) : HasF3 (W.setCell p v) b x y z :=
  ⟨h.1.set p v hp, fun o => by simpa using h.2 o⟩
theorem HasF4.set {W : World} {b p x y z : Nat} (h : HasF4 W b p x y z) (a : Addr) (v : Value) (hp : a.block ≠ b) : HasF4 (W.setCell a v) b p x y z :=
  ⟨h.1.set a v hp, fun o => by simpa using h.2 o⟩

end Go.Proofs.YteibkechlkjpgabDoor
