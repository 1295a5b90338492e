/-
  The angle fits a float32; the angle functions. No condition.
-/
import Derived.Test.YtpfijbgkhekjfabVg
set_option linter.unusedVariables false
namespace Go.Proofs.Ytpfijbgkhekjfab
open Go.RowKit Go.Proofs.Ytpfijbgkhekjfab.Fl

/-! ### bounds of constants -/
theorem bd_const {c P : Nat} (h : rung Ieee.double c ≤ P * 2 ^ 52) : Bd (some c) P := fun b hb => by cases hb; exact h
theorem lo_const {c P : Nat} (h : P * 2 ^ 52 ≤ rung Ieee.double c) : Lo (some c) P := fun b hb => by cases hb; exact h
theorem pos_const {c : Nat} (h : sgn Ieee.double c = false) : Pos (some c) := fun b hb => by cases hb; exact h
theorem bd_int {n : Int} {P : Nat} (hP : 2 ≤ P) (h : n = 0 ∨ (1023 ≤ P ∧ n.natAbs ≤ 2 ^ (P - 1023))) : Bd (some (FloatKind.f64.nearest n)) P := by
  refine bd_const ?_
  refine bd_write (d := .infinity false) hP (decide (n < 0)) n.natAbs 0 ?_
  rcases h with rfl | ⟨h1, h2⟩
  · exact .inl rfl
  · right
    refine ⟨by omega, ?_⟩
    rw [show ((P : Int) - 1023 - 0).toNat = P - 1023 by omega]
    exact h2
theorem lo_int {n : Int} (h : n ≠ 0) : Lo (some (FloatKind.f64.nearest n)) 1023 := by
  refine lo_const ?_
  show _ ≤ rung Ieee.double (Ieee.double.nearest _ _ _)
  rw [rung_nearest]
  exact near_lower (by omega) (by omega) (by omega) (by omega)

theorem sum_comm (x y : Ieee.Datum) : x.sum y = y.sum x := by
  cases x <;> cases y <;> simp [Ieee.Datum.sum, Int.add_comm, Int.min_comm, Bool.and_comm, eq_comm]
  rename_i a b
  cases a <;> cases b <;> rfl
theorem add_comm6 (x y : Option Nat) : fop .add .f64 x y = fop .add .f64 y x := by
  cases x with
  | none => cases y <;> rfl
  | some a =>
    cases y with
    | none => rfl
    | some b =>
      show ((Ieee.double.read a).sum (Ieee.double.read b)).map Ieee.double.write = ((Ieee.double.read b).sum (Ieee.double.read a)).map Ieee.double.write
      rw [sum_comm]

theorem one_bd (P : Nat) (h : 1023 ≤ P) : Bd one6 P := (bd_const (P := 1023) (by decide)).mono h
theorem one_lo : Lo one6 1023 := lo_const (by decide)
theorem one_pos : Pos one6 := pos_const (by decide)

/-- 1 and a number that is not negative. -/
theorem one_add {x : Option Nat} {P : Nat} (h1 : 1023 ≤ P) (h2 : P ≤ 2045) (hx : Bd x P) (px : Pos x) : Bd (A6 one6 x) (P + 1) ∧ Lo (A6 one6 x) 1023 ∧ Pos (A6 one6 x) := by
  refine ⟨(one_bd P h1).add (by omega) h2 hx, ?_⟩
  show Lo (fop .add .f64 one6 x) 1023 ∧ Pos (fop .add .f64 one6 x)
  rw [add_comm6]
  exact add_lo (by omega) h2 (by omega) (by omega) hx (one_bd P h1) px one_pos one_lo

theorem bd_stepT {t : Option Nat} (h : Bd t 1023) : Bd (stepT t) 1023 := by
  have a1 : Bd (M6 t t) 1023 := h.mul (by omega) (by omega) (by omega) (by omega) (by omega) (by omega) h
  obtain ⟨b1, b2, b3⟩ := one_add (by omega) (by omega) a1 (pos_square t)
  have c1 : Bd (fsqrt (A6 one6 (M6 t t))) 1024 := b1.sqrt (by omega) (by omega) (by omega)
  have c2 := pos_sqrt (P := 1024) (by omega) (by omega) b1 (by omega) b2
  obtain ⟨d1, d2, d3⟩ := one_add (by omega) (by omega) c1 c2
  exact h.quo (Q := 1023) (by omega) (by omega) (by omega) (by omega) (by omega) d2 (d1.mono (by omega))

theorem bd_itT {t : Option Nat} (h : Bd t 1023) : ∀ n, Bd (itT t n) 1023
  | 0 => h
  | n + 1 => bd_stepT (bd_itT h n)

theorem bd_zero (P : Nat) : Bd (some 0) P := bd_const (by rw [show rung Ieee.double 0 = 0 from rfl]; exact Nat.zero_le _)

theorem bd_itP {u : Option Nat} (h : Bd u 1023) : ∀ n, n ≤ 8 → Bd (itP u n) (1023 + n)
  | 0, _ => bd_zero _
  | n + 1, hn => by
    have ih := bd_itP h n (by omega)
    have hk : (15 - 2 * (n : Int)) ≠ 0 := by omega
    have q : Bd (D6 one6 (some (FloatKind.f64.nearest (15 - 2 * (n : Int))))) 1023 :=
      (one_bd 1023 (by omega)).quo (Q := 1023) (by omega) (by omega) (by omega) (by omega) (by omega) (lo_int hk) ((bd_int (P := 1027) (by omega) (.inr ⟨by omega, show _ ≤ 16 by omega⟩)).mono (by omega))
    have m : Bd (M6 u (itP u n)) (1023 + n) := h.mul (by omega) (by omega) (by omega) (by omega) (by omega) (by omega) ih
    have hs := (q.mono (show 1023 ≤ 1023 + n by omega)).sub (by omega) (by omega) m
    exact hs

theorem bd_ang0 {t : Option Nat} (h : Bd t 1023) : Bd (ang0 t) 1032 := by
  have u : Bd (M6 t t) 1023 := h.mul (by omega) (by omega) (by omega) (by omega) (by omega) (by omega) h
  have p := bd_itP u 8 (by omega)
  have m : Bd (M6 t (itP (M6 t t) 8)) 1031 := h.mul (by omega) (by omega) (by omega) (by omega) (by omega) (by omega) p
  have m2 : Bd (M6 (some 4620693217682128896) (M6 t (itP (M6 t t) 8))) 1034 := (bd_const (P := 1026) (by decide)).mul (by omega) (by omega) (by omega) (by omega) (by omega) (by omega) m
  exact m2.quo (Q := 1025) (by omega) (by omega) (by omega) (by omega) (by omega) (lo_const (by decide)) ((bd_const (P := 1026) (by decide)).mono (by omega))

theorem bd_neg {x : Option Nat} {P : Nat} (hw : ∀ b, x = some b → b < 2 ^ 64) (h : Bd x P) : Bd (fneg .f64 x) P := by
  intro b hb
  cases x with
  | none => cases hb
  | some a =>
    have e : Op.negFloat .f64 a = b := Option.some.inj hb
    rw [← e]
    have := neg_rung (k := .f64) (b := a) (hw a rfl)
    show rung FloatKind.f64.format _ ≤ _
    rw [this]
    exact h a rfl

theorem fop_lt {op : BinOp} {k : FloatKind} {x y : Option Nat} {r : Nat} (h : fop op k x y = some r) : r < 2 ^ k.format.width := by
  cases x with
  | none => cases h
  | some a =>
    cases y with
    | none => cases h
    | some b => exact lt_of_wf (floatBits_wf h)

/-! ### finite numbers -/
def finK (k : FloatKind) (c : Option Nat) : Bool := ford k (fop .sub k c c) (some 0) == some .eq

theorem sub_self_fin {k : FloatKind} {b : Nat} (h : rung k.format b < k.format.infRung) : ∃ z, fop .sub k (some b) (some b) = some z ∧ rung k.format z = 0 := by
  obtain ⟨m, p, hn⟩ := read_num k.format h
  refine ⟨k.format.write (.number (sgn k.format b && !sgn k.format b) 0 (k.format.leastPlace + (p : Int))), ?_, ?_⟩
  · show ((k.format.read b).sum (k.format.read b).opposite).map k.format.write = some _
    rw [hn.read]
    simp only [Ieee.Datum.opposite, Ieee.Datum.sum, Option.map_some, Int.min_self, Int.sub_self, Int.toNat_zero, signed_pm, Nat.pow_zero, Nat.mul_one]
    have e : pm (sgn k.format b) m + pm (!sgn k.format b) m = 0 := by unfold pm; cases sgn k.format b <;> simp <;> omega
    rw [e]
    rfl
  · show rung k.format (k.format.nearest _ 0 _) = 0
    rw [rung_nearest]
    unfold near
    rw [if_pos rfl]

theorem sub_self_inf {k : FloatKind} {b : Nat} (h : rung k.format b = k.format.infRung) : fop .sub k (some b) (some b) = none := by
  show ((k.format.read b).sum (k.format.read b).opposite).map k.format.write = none
  rw [read_inf k.format (bb k) h]
  cases sgn k.format b <;> rfl

theorem finK_some {k : FloatKind} {b : Nat} (hb : rung k.format b ≤ k.format.infRung) : finK k (some b) = decide (rung k.format b < k.format.infRung) := by
  unfold finK
  by_cases h : rung k.format b < k.format.infRung
  · obtain ⟨z, h1, h2⟩ := sub_self_fin h
    rw [h1]
    have e : ford k (some z) (some 0) = some .eq := by
      show some (compare (srung k.format z) (srung k.format 0)) = some .eq
      have e1 : srung k.format z = 0 := by unfold srung; rw [h2]; unfold pm; cases sgn k.format z <;> rfl
      have e2 : srung k.format 0 = 0 := by
        have : rung k.format 0 = 0 := Nat.zero_mod _
        unfold srung; rw [this]; unfold pm; cases sgn k.format 0 <;> rfl
      rw [e1, e2, compare_eq rfl]
    rw [e, decide_eq_true h]; rfl
  · rw [sub_self_inf (by omega), decide_eq_false h]; rfl

theorem fin_widen {x : Nat} {c : Option Nat} (h : Fv .f32 x c) : fin6 (fconv .f32 .f64 c) = finB c := by
  cases c with
  | none => simp [fin6, finB, fop, ford, fconv]
  | some b =>
    obtain rfl := (cls_some.1 h.is).2
    obtain ⟨r, h1, h2, _, h4, h5⟩ := widen_some h
    have e1 : finB (some x) = decide (rung Ieee.single x < Ieee.single.infRung) := finK_some (k := .f32) (cls_some.1 h.is).1
    have e2 : fin6 (some r) = decide (rung Ieee.double r < Ieee.double.infRung) := finK_some (k := .f64) (cls_some.1 h2.is).1
    have hi : rung Ieee.single x ≤ Ieee.single.infRung := (cls_some.1 h.is).1
    refine (congrArg fin6 h1).trans (e2.trans (Eq.trans ?_ e1.symm))
    by_cases c : rung Ieee.single x < Ieee.single.infRung
    · rw [decide_eq_true c, decide_eq_true (h5 c).1]
    · have := h4 (Nat.le_antisymm hi (Nat.not_lt.1 c))
      rw [decide_eq_false c, decide_eq_false (by rw [this]; exact Nat.lt_irrefl _)]

theorem eq_widen {x : Nat} {c : Option Nat} (h : Fv .f32 x c) : eq6 (fconv .f32 .f64 c) = (ford .f32 c (some 0) == some .eq) := by
  have := ford_widen h (fvc rfl : Fv .f32 0 (some 0))
  rw [show fconv .f32 .f64 (some 0) = some 0 by decide +kernel] at this
  unfold eq6
  rw [this]

/-- A finite float32 that is widened: its magnitude. -/
theorem wide_abs {x : Nat} {c : Option Nat} (h : Fv .f32 x c) (hf : finB c = true) : ∃ a, fabs .f64 (fconv .f32 .f64 c) = some a ∧ sgn Ieee.double a = false ∧ rung Ieee.double a ≤ 2046 * 2 ^ 52 ∧ (rung Ieee.double a = 0 → eq6 (fconv .f32 .f64 c) = true) := by
  cases c with
  | none => cases hf
  | some b =>
    obtain rfl := (cls_some.1 h.is).2
    obtain ⟨r, h1, h2, _, h4, h5⟩ := widen_some h
    have e1 : finB (some x) = decide (rung Ieee.single x < Ieee.single.infRung) := finK_some (k := .f32) (cls_some.1 h.is).1
    rw [e1] at hf
    have hb := bd_widen rfl h (of_decide_eq_true hf)
    rw [h1] at hb
    refine ⟨rung Ieee.double r, by rw [h1]; rfl, sgn_rung _ _, ?_, ?_⟩
    · rw [rung_rung]
      exact Nat.le_trans (hb r rfl) (Nat.mul_le_mul_right _ (by omega))
    · intro hz
      rw [rung_rung] at hz
      rw [h1]
      unfold eq6
      have e : ford .f64 (some r) (some 0) = some .eq := by
        show some (compare (srung Ieee.double r) (srung Ieee.double 0)) = some .eq
        have e1 : srung Ieee.double r = 0 := by unfold srung; rw [hz]; unfold pm; cases sgn Ieee.double r <;> rfl
        rw [e1, compare_eq (by decide)]
      rw [e]; rfl

theorem bd_angT {y x : Nat} {cy cx : Option Nat} (hy : Fv .f32 y cy) (hx : Fv .f32 x cx) (fy : finB cy = true) (fx : finB cx = true) (hz : (eq6 (fconv .f32 .f64 cx) && eq6 (fconv .f32 .f64 cy)) = false) :
    Bd (angT (fconv .f32 .f64 cy) (fconv .f32 .f64 cx)) 1023 := by
  obtain ⟨a, ha, sa, la, za⟩ := wide_abs hy fy
  obtain ⟨b, hb, sb, lb, zb⟩ := wide_abs hx fx
  have hg : gt6 (some a) (some b) = decide (rung Ieee.double b < rung Ieee.double a) := by
    show (some (compare (srung Ieee.double a) (srung Ieee.double b)) == some Ordering.gt) = _
    have e1 : srung Ieee.double a = (rung Ieee.double a : Int) := by unfold srung; rw [sa]; rfl
    have e2 : srung Ieee.double b = (rung Ieee.double b : Int) := by unfold srung; rw [sb]; rfl
    rw [e1, e2]
    by_cases c : rung Ieee.double b < rung Ieee.double a
    · rw [compare_gt (by omega), decide_eq_true c]; rfl
    · rw [decide_eq_false c]
      by_cases d : rung Ieee.double a < rung Ieee.double b
      · rw [compare_lt (by omega)]; rfl
      · rw [compare_eq (by omega)]; rfl
  unfold angT
  rw [ha, hb, hg]
  by_cases c : rung Ieee.double b < rung Ieee.double a
  · rw [decide_eq_true c]
    exact quo_one (by omega) la (by omega)
  · rw [decide_eq_false c]
    refine quo_one (by omega) lb fun h0 => ?_
    have h1 := zb h0
    have h2 := za (by omega)
    rw [h1, h2] at hz
    cases hz

theorem fits_ang {y x : Nat} {cy cx : Option Nat} (hy : Fv .f32 y cy) (hx : Fv .f32 x cx) (fy : finB cy = true) (fx : finB cx = true) (hz : (eq6 (fconv .f32 .f64 cx) && eq6 (fconv .f32 .f64 cy)) = false) :
    Fits .f64 .f32 (ang3 (fconv .f32 .f64 cy) (fconv .f32 .f64 cx)) := by
  have h0 := bd_ang0 (bd_itT (bd_angT hy hx fy fx hz) 3)
  have h1 : Bd (ang1 (fconv .f32 .f64 cy) (fconv .f32 .f64 cx)) 1033 ∧ ∀ b, ang1 (fconv .f32 .f64 cy) (fconv .f32 .f64 cx) = some b → b < 2 ^ 64 := by
    unfold ang1
    split
    · exact ⟨((bd_const (P := 1021) (by decide)).mono (by omega)).sub (by omega) (by omega) h0, fun b hb => fop_lt hb⟩
    · exact ⟨h0.mono (by omega), fun b hb => by unfold ang0 at hb; exact fop_lt hb⟩
  have h2 : Bd (ang2 (fconv .f32 .f64 cy) (fconv .f32 .f64 cx)) 1034 ∧ ∀ b, ang2 (fconv .f32 .f64 cy) (fconv .f32 .f64 cx) = some b → b < 2 ^ 64 := by
    unfold ang2
    split
    · exact ⟨((bd_const (P := 1022) (by decide)).mono (by omega)).sub (by omega) (by omega) h1.1, fun b hb => fop_lt hb⟩
    · exact ⟨h1.1.mono (by omega), h1.2⟩
  unfold ang3
  split
  · exact fits_narrow (P := 1034) (by omega) (bd_neg h2.2 h2.1)
  · exact fits_narrow (P := 1034) (by omega) h2.1

end Go.Proofs.Ytpfijbgkhekjfab
