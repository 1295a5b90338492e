/-
  How the walk meets float operations: whatever the tape gives for a NaN. Of whatever program; no condition.
-/
import Derived.Test.YteibkechlkjpgabDoorFc
import Derived.WalkKit
import Derived.WalkLawsBesides
import Derived.Below
import Derived.Deep.Draws
set_option linter.unusedVariables false
namespace Go.Proofs.YteibkechlkjpgabDoor.Fl
open Ieee

def isArith : BinOp → Bool
  | .add | .sub | .mul | .quo => true
  | _ => false

section
variable {P : Program} (w : World)

/-- A store of a float into a cell. -/
@[go_sem] theorem run_store_float (a : Addr) (m : Mode) (k : FloatKind) (b : Nat) : (store a (.float k b) m).run P w = stored P w a (.float k b) m := run_store P w a _ m rfl

theorem run_choose {α : Type} (q : Question) (k : Nat → Sem α) (hq : q.forced = false) :
    (Sem.choose q k).run P w = (k (q.cut (w.tape w.drawn q))).run P { w with drawn := w.drawn + 1 } := by
  simp [Sem.run, hq]

/-- '+', '-', '*', '/' on floats, valid or not. -/
theorem run_float_any (op : BinOp) (hop : isArith op = true) (t : TypeId) (k : FloatKind) {x y : Nat} {cx cy : Option Nat} (fx : Fv k x cx) (fy : Fv k y cy) :
    ∃ r n, (binOp op t (.float k x) (.float k y)).run P w = .ok (.float k r) (w.drewN n) ∧ Fv k r (fop op k cx cy) := by
  have hc : floatBits op k x y = fop op k cx cy := by rw [floatBits_cls, fx.is, fy.is]
  cases h : floatBits op k x y with
  | some r =>
    refine ⟨r, 0, run_float_arith w op t k x y r h, ?_, ?_⟩
    · exact lt_of_wf (floatBits_wf h)
    · rw [← hc, h]; exact (floatBits_fair h).1
  | none =>
    have hf := fv_nanBits k x y (w.tape w.drawn (.nanBits k x y))
    refine ⟨_, 1, ?_, hf.lt, ?_⟩
    · unfold floatBits at h
      cases op <;> simp only [isArith] at hop <;> first | (cases hop; done) | skip
      all_goals
        simp only at h
        simp only [binOp, ne_eq, not_true_eq_false, if_false, Op.floatArith, h]
        rfl
    · rw [← hc, h]; exact hf.is

/-- A conversion from float to float whose result fits. -/
theorem run_conv_any (src dst : TypeId) (s d : FloatKind) {b : Nat} {c : Option Nat} (hs : (P.underlying src).isSome = true) (hd : P.underlying dst = some (.float d))
    (fb : Fv s b c) (hfit : Fits s d c) :
    ∃ r n, (convert src dst (.float s b)).run P w = .ok (.float d r) (w.drewN n) ∧ Fv d r (fconv s d c) := by
  cases c with
  | some a =>
    have e := (cls_some.1 fb.is).2
    cases h : floatToFloatBits s b d with
    | none => exact absurd h (hfit b (by rw [e]))
    | some r => exact ⟨r, 0, run_convert_float_float w src dst s d b r hs hd h, conv_cls fb h (by simp)⟩
  | none =>
    by_cases e : s = d
    · subst e
      exact ⟨b, 0, run_convert_float_float w src dst s s b b hs hd (by unfold floatToFloatBits; rw [if_pos rfl]), fb⟩
    · obtain ⟨sg, t, hn⟩ := decode_nan fb.is
      have hf := fv_nanConv d b (w.tape w.drawn (.nanConv d b))
      refine ⟨_, 1, ?_, hf.lt, hf.is⟩
      obtain ⟨u, hs'⟩ := Option.isSome_iff_exists.1 hs
      cases u <;> simp [convert, run_underlying hs', run_underlying hd, Conv.floatToFloat, e, hn] <;> rfl
end

section
variable {P : Program} {ops : Array Oper} {Q : Exit → Act → World → Prop} {a : Act} {w : World} {rest : List Oper}
variable {dst : Option Tmp} {ty : TypeId} {pos : String} {after : Array Edge}

theorem wp_float_bin {K : Act → World → Prop} {op : BinOp} {t : TypeId} {x y : Operand} {yt : TypeId} {k : FloatKind} {bx bY : Nat} {cx cy : Option Nat} {g : Option (Nat × Bool)}
    (hx : a.eval x = .float k bx) (hy : a.eval y = .float k bY) (hop : isArith op = true) (fx : Fv k bx cx) (fy : Fv k bY cy)
    (h : ∀ r n, Fv k r (fop op k cx cy) → K (a.put dst (.float k r)) (w.drewN n)) :
    (⟨dst, .binOp op t x y yt, ty, pos, after, g⟩ : Oper).wp P a w K Q := by
  obtain ⟨r, n, hr, hf⟩ := run_float_any (P := P) w op hop t k fx fy
  have hg : ∀ u v, eqGuard op t x y u v = pure () := by intro u v; cases op <;> first | rfl | (cases hop; done)
  unfold Oper.wp execOp
  simp only [hg, hx, hy, Sem.run_bind, Sem.run_pure, Result.andThen_ok, hr]
  exact h r n hf

theorem upon_float_bin {K : Act → World → Prop} {o : Oper} {op : BinOp} {t : TypeId} {k : FloatKind} {x y : Nat} {cx cy : Option Nat}
    (hop : isArith op = true) (fx : Fv k x cx) (fy : Fv k y cy) (h : ∀ r n, Fv k r (fop op k cx cy) → K (a.put o.dst (.float k r)) (w.drewN n)) :
    o.upon P a K Q (((binOp op t (.float k x) (.float k y)).run P w).andThen fun v w' => .ok (.value v) w') := by
  obtain ⟨r, n, hr, hf⟩ := run_float_any (P := P) w op hop t k fx fy
  rw [hr]
  exact h r n hf

theorem upon_float_conv {K : Act → World → Prop} {o : Oper} {src dt : TypeId} {s d : FloatKind} {b : Nat} {c : Option Nat}
    (hs : (P.underlying src).isSome = true) (hd : P.underlying dt = some (.float d)) (fb : Fv s b c) (hfit : Fits s d c)
    (h : ∀ r n, Fv d r (fconv s d c) → K (a.put o.dst (.float d r)) (w.drewN n)) :
    o.upon P a K Q (((convert src dt (.float s b)).run P w).andThen fun v w' => .ok (.value v) w') := by
  obtain ⟨r, n, hr, hf⟩ := run_conv_any (P := P) w src dt s d hs hd fb hfit
  rw [hr]
  exact h r n hf

theorem wpList_float_bin {op : BinOp} {t : TypeId} {x y : Operand} {yt : TypeId} {k : FloatKind} {bx bY : Nat} {cx cy : Option Nat}
    (hx : a.eval x = .float k bx) (hy : a.eval y = .float k bY) (hop : isArith op = true) (fx : Fv k bx cx) (fy : Fv k bY cy)
    (h : ∀ r n, Fv k r (fop op k cx cy) → wpList P ops Q rest (a.put dst (.float k r)) (w.drewN n)) :
    wpList P ops Q (⟨dst, .binOp op t x y yt, ty, pos, after, none⟩ :: rest) a w :=
  wpList_plain rfl fun _ hK => wp_float_bin hx hy hop fx fy fun r n hr => hK _ _ (h r n hr)

theorem wp_float_conv {K : Act → World → Prop} {src dt : TypeId} {x : Operand} {s d : FloatKind} {b : Nat} {c : Option Nat} {g : Option (Nat × Bool)}
    (hx : a.eval x = .float s b) (hs : (P.underlying src).isSome = true) (hd : P.underlying dt = some (.float d)) (fb : Fv s b c) (hfit : Fits s d c)
    (h : ∀ r n, Fv d r (fconv s d c) → K (a.put dst (.float d r)) (w.drewN n)) :
    (⟨dst, .convert src dt x, ty, pos, after, g⟩ : Oper).wp P a w K Q := by
  obtain ⟨r, n, hr, hf⟩ := run_conv_any (P := P) w src dt s d hs hd fb hfit
  unfold Oper.wp execOp
  simp only [hx, Sem.run_bind, Sem.run_pure, Result.andThen_ok, hr]
  exact h r n hf

theorem wpList_float_conv {src dt : TypeId} {x : Operand} {s d : FloatKind} {b : Nat} {c : Option Nat}
    (hx : a.eval x = .float s b) (hs : (P.underlying src).isSome = true) (hd : P.underlying dt = some (.float d)) (fb : Fv s b c) (hfit : Fits s d c)
    (h : ∀ r n, Fv d r (fconv s d c) → wpList P ops Q rest (a.put dst (.float d r)) (w.drewN n)) :
    wpList P ops Q (⟨dst, .convert src dt x, ty, pos, after, none⟩ :: rest) a w :=
  wpList_plain rfl fun _ hK => wp_float_conv hx hs hd fb hfit fun r n hr => hK _ _ (h r n hr)
end

end Go.Proofs.YteibkechlkjpgabDoor.Fl
