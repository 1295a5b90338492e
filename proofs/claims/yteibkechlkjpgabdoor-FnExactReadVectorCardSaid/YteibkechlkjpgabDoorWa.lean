/-
  Contracts of the small functions on numbers: each says what the Go text returns, up to the bits of a NaN. No condition but that the words fit their kinds.
-/
import Derived.Test.YteibkechlkjpgabDoorChecked
import Derived.Test.YteibkechlkjpgabDoorFw
set_option linter.unusedVariables false
namespace Go.Proofs.YteibkechlkjpgabDoor
open Go.RowKit Go.Proofs.YteibkechlkjpgabDoor.Fl

theorem bel_drewN (w : World) (n : Nat) : Below w.heap.size w (w.drewN n) := below_drewN (Below.refl _ _) n

theorem ret_bool {a b : Bool} (h : a = b) : Ending.returned (.bool a) = .returned (.bool b) := by rw [h]

/-- x - x = 0 -/
def finB (c : Option Nat) : Bool := ford .f32 (fop .sub .f32 c c) (some 0) == some .eq



theorem ord_none {k : FloatKind} {x : Nat} (h : Fv k x none) : k.format.order x x = none := by rw [order_fv h h]; rfl
theorem ord_some {k : FloatKind} {x b : Nat} (h : Fv k x (some b)) : k.format.order x x = some .eq := by
  rw [order_fv h h]; exact congrArg some (compare_eq rfl)

theorem sameFloat_nan (a b : Nat) (ha : Fv .f64 a none) (hb : Fv .f64 b none) (w : World) :
    Calls Tryd.prog 16 #[.float .f64 a, .float .f64 b] w fun e w' => e = .returned (.bool true) ∧ ∃ n, w' = w.drewN n := by
  have h1 := ord_none ha
  have h2 := ord_none hb
  go_enter Tryd.func16, Tryd.ntmps16
  go_wp2_with ((with_reducible apply upon_float_bin); exact rfl; (first | assumption | exact fvc rfl); (first | assumption | exact fvc rfl); intro r n hr; (try rw [World.drewN_drewN]); simp only [Act.put, List.setIfInBounds_toArray, List.set_cons_zero, List.set_cons_succ])
  go_ret
  exact ⟨rfl, 0, rfl⟩

theorem sameFloat_some (a c : Nat) (ha : Fv .f64 a (some c)) (w : World) :
    Calls Tryd.prog 16 #[.float .f64 a, .float .f64 a] w fun e w' => e = .returned (.bool true) ∧ ∃ n, w' = w.drewN n := by
  have h1 := ord_some ha
  by_cases hz : FloatKind.f64.format.order a 0 = some .eq
  · go_enter Tryd.func16, Tryd.ntmps16
    go_wp2_with ((with_reducible apply upon_float_bin); exact rfl; (first | assumption | exact fvc rfl); (first | assumption | exact fvc rfl); intro r n hr; (try rw [World.drewN_drewN]); simp only [Act.put, List.setIfInBounds_toArray, List.set_cons_zero, List.set_cons_succ])
    go_ret
    rename_i r0 n0 hr0
    exact ⟨ret_bool (by rw [order_fv hr (fvc (b := 0) rfl), order_fv hr0 (fvc (b := 0) rfl)]; exact beq_self_eq_true _), _, rfl⟩
  · have hz' : (FloatKind.f64.format.order a 0 == some .eq) = false := by simpa using hz
    clear hz
    go_enter Tryd.func16, Tryd.ntmps16
    go_wp2_with ((with_reducible apply upon_float_bin); exact rfl; (first | assumption | exact fvc rfl); (first | assumption | exact fvc rfl); intro r n hr; (try rw [World.drewN_drewN]); simp only [Act.put, List.setIfInBounds_toArray, List.set_cons_zero, List.set_cons_succ])
    go_ret
    exact ⟨rfl, 0, rfl⟩

/-- THE STATEMENTS' OWN COMPARISON: two words of one class are the same. -/
theorem sameFloat_any (a b : Nat) (c : Option Nat) (ha : Fv .f64 a c) (hb : Fv .f64 b c) (w : World) :
    Calls Tryd.prog 16 #[.float .f64 a, .float .f64 b] w fun e w' => e = .returned (.bool true) ∧ ∃ n, w' = w.drewN n := by
  cases c with
  | none => exact sameFloat_nan a b ha hb w
  | some c =>
    have e1 := (cls_some.1 ha.is).2
    have e2 := (cls_some.1 hb.is).2
    subst e1
    subst e2
    exact sameFloat_some _ _ ha w

theorem f32bits (x : Nat) (w : World) : (callFunc 25 #[.float .f32 x]).run Tryd.prog w = .ok (.value (.int .u32 x)) w := by
  rw [run_callFunc_extern Tryd.func25 (by kernel_rfl) (by kernel_rfl) (by kernel_rfl) (e := Extern.MathFloatBits.float32bits) (by kernel_rfl)]
  rfl

theorem f32from (n : Int) (w : World) : (callFunc 23 #[.int .u32 n]).run Tryd.prog w = .ok (.value (.float .f32 n.toNat)) w := by
  rw [run_callFunc_extern Tryd.func23 (by kernel_rfl) (by kernel_rfl) (by kernel_rfl) (e := Extern.MathFloatBits.float32frombits) (by kernel_rfl)]
  rfl



/-- The bits of a number; of every NaN the same ones. -/
def bitsC : Option Nat → Int
  | none => 2143289344
  | some b => b

theorem ret_int {k : IntKind} {a b : Int} (h : a = b) : Ending.returned (.int k a) = .returned (.int k b) := by rw [h]

theorem wrap_u32 {x : Nat} (h : x < 2 ^ FloatKind.f32.format.width) : wrap64 (x : Int) = bitsC (some x) := by
  have e : (2 : Nat) ^ FloatKind.f32.format.width = 4294967296 := rfl
  show wrap64 (x : Int) = (x : Int)
  unfold wrap64
  omega

theorem l01Bits_spec (x : Nat) (c : Option Nat) (h : Fv .f32 x c) (w : World) :
    Calls Tryd.prog 20 #[.float .f32 x] w fun e w' => e = .returned (.int .i64 (bitsC c)) ∧ ∃ n, w' = w.drewN n := by
  have hx := f32bits
  cases c with
  | none =>
    have h1 := ord_none h
    go_enter Tryd.func20, Tryd.ntmps20
    go_wp2
    go_ret
    exact ⟨rfl, 0, rfl⟩
  | some b =>
    have h1 := ord_some h
    have e1 := (cls_some.1 h.is).2
    subst e1
    go_enter Tryd.func20, Tryd.ntmps20
    go_wp2
    go_ret
    exact ⟨ret_int (wrap_u32 h.lt), 0, rfl⟩

theorem bitsOf_impl (x : Nat) (c : Option Nat) (h : Fv .f32 x c) (w : World) :
    Calls Tryd.prog 30 #[.float .f32 x] w fun e w' => e = .returned (.int .i64 (bitsC c)) ∧ ∃ n, w' = w.drewN n := by
  have hx := f32bits
  cases c with
  | none =>
    have h1 := ord_none h
    go_enter Tryd.func30, Tryd.ntmps30
    go_wp2
    go_ret
    exact ⟨rfl, 0, rfl⟩
  | some b =>
    have h1 := ord_some h
    have e1 := (cls_some.1 h.is).2
    subst e1
    go_enter Tryd.func30, Tryd.ntmps30
    go_wp2
    go_ret
    exact ⟨ret_int (wrap_u32 h.lt), 0, rfl⟩

theorem f32some : (Tryd.prog.underlying 28).isSome = true := by rw [Tryd.underlying28]; rfl
theorem f64some : (Tryd.prog.underlying 39).isSome = true := by rw [Tryd.underlying39]; rfl

end Go.Proofs.YteibkechlkjpgabDoor
