/-
  The angle of a point, in 64 bits: the program's and the reference's do the same operations. No condition.
-/
import Derived.Test.YtpfijbgkhekjfabVq
import Derived.Test.YtpfijbgkhekjfabFu
import Derived.ChangeOld
set_option linter.unusedVariables false
namespace Go.Proofs.Ytpfijbgkhekjfab
open Go.RowKit Go.Proofs.Ytpfijbgkhekjfab.Fl

theorem fv_int (n : Int) : Fv .f64 (FloatKind.f64.nearest n) (some (FloatKind.f64.nearest n)) := by
  refine ⟨?_, cls_write .f64 (.number (n < 0) n.natAbs 0) rfl⟩
  show Ieee.double.nearest _ _ _ < _
  rw [nearest_word]
  have h := near_lt Ieee.double (decide (n < 0)) n.natAbs 0
  generalize near Ieee.double (decide (n < 0)) n.natAbs 0 = r at *
  have e : Ieee.double.signWeight = 2 ^ 63 := rfl
  have e2 : FloatKind.f64.format.width = 64 := rfl
  rw [e2]
  unfold Ieee.Format.word
  rw [e] at h ⊢
  cases decide (n < 0) <;> simp <;> omega

abbrev A6 (x y : Option Nat) : Option Nat := fop .add .f64 x y
abbrev B6 (x y : Option Nat) : Option Nat := fop .sub .f64 x y
abbrev M6 (x y : Option Nat) : Option Nat := fop .mul .f64 x y
abbrev D6 (x y : Option Nat) : Option Nat := fop .quo .f64 x y
abbrev one6 : Option Nat := some 4607182418800017408
def gt6 (x y : Option Nat) : Bool := ford .f64 x y == some .gt
def lt6 (x : Option Nat) : Bool := ford .f64 x (some 0) == some .lt
def stepT (t : Option Nat) : Option Nat := D6 t (A6 one6 (fsqrt (A6 one6 (M6 t t))))
def stepP (u : Option Nat) (k : Int) (p : Option Nat) : Option Nat := B6 (D6 one6 (some (FloatKind.f64.nearest k))) (M6 u p)
def itT (t : Option Nat) : Nat → Option Nat
  | 0 => t
  | n + 1 => stepT (itT t n)
def itP (u : Option Nat) : Nat → Option Nat
  | 0 => some 0
  | n + 1 => stepP u (15 - 2 * (n : Int)) (itP u n)
def angT (y x : Option Nat) : Option Nat := match gt6 (fabs .f64 y) (fabs .f64 x) with
  | true => D6 (fabs .f64 x) (fabs .f64 y)
  | false => D6 (fabs .f64 y) (fabs .f64 x)
def ang0 (t : Option Nat) : Option Nat := D6 (M6 (some 4620693217682128896) (M6 t (itP (M6 t t) 8))) (some 4618760256179416344)
def ang1 (y x : Option Nat) : Option Nat := match gt6 (fabs .f64 y) (fabs .f64 x) with
  | true => B6 (some 4598175219545276416) (ang0 (itT (angT y x) 3))
  | false => ang0 (itT (angT y x) 3)
def ang2 (y x : Option Nat) : Option Nat := match lt6 x with
  | true => B6 (some 4602678819172646912) (ang1 y x)
  | false => ang1 y x
def ang3 (y x : Option Nat) : Option Nat := match lt6 y with
  | true => fneg .f64 (ang2 y x)
  | false => ang2 y x

theorem neg_run6 (x : Nat) (w : World) : (Op.unary .neg (.float .f64 x)).run Try.prog w = .ok (.float .f64 (Op.negFloat .f64 x)) w := rfl

theorem c_math_Abs {x : Nat} {c : Option Nat} (h : Fv .f64 x c) (w : World) :
    Calls Try.prog 37 #[.float .f64 x] w fun e w' => (∃ r, e = .returned (.float .f64 r) ∧ Fv .f64 r (fabs .f64 c)) ∧ ∃ n, w' = w.drewN n := by
  have hx := f64bits
  have hy := f64from
  go_enter Try.func37, Try.ntmps37
  go_wp2
  go_ret
  refine ⟨⟨_, rfl, ?_⟩, 0, rfl⟩
  rw [andNot_top64 x h.lt]
  exact h.abs


def fin6 (c : Option Nat) : Bool := ford .f64 (fop .sub .f64 c c) (some 0) == some .eq
def eq6 (c : Option Nat) : Bool := ford .f64 c (some 0) == some .eq


end Go.Proofs.Ytpfijbgkhekjfab
