/-
  Square roots and lengths. No condition.
-/
import Derived.Test.YtpfijbgkhekjfabVb
import Derived.Test.YtpfijbgkhekjfabFs
set_option linter.unusedVariables false
namespace Go.Proofs.Ytpfijbgkhekjfab
open Go.RowKit Go.Proofs.Ytpfijbgkhekjfab.Fl

/-! ### the root of a float32, in 64 bits, fits 32 bits -/
theorem bd_widen {b P : Nat} (hP : P = 1151) (h : Fv .f32 b (some b)) (hf : rung Ieee.single b < Ieee.single.infRung) : Bd (fconv .f32 .f64 (some b)) P := by
  obtain ⟨r, h1, h2, h3, _, h5⟩ := widen_some h
  obtain ⟨h6, h7⟩ := h5 hf
  intro c hc
  rw [h1] at hc
  cases hc
  refine (sv_le_iff Ieee.double _ _).1 ?_
  rw [sv_binade P (by omega), h7]
  have hs := (sv_lt_iff Ieee.single _ _).2 hf
  rw [sv_inf Ieee.single (by decide)] at hs
  have e : Ieee.single.fractionBits + (2 ^ Ieee.single.exponentBits - 2) = 277 := rfl
  rw [e] at hs
  exact Nat.le_of_lt (lt_split (n := 277) (c := 925) (N := P + 51) (by omega) hs)

/-- A float32's root. -/
def rootC (c : Option Nat) : Option Nat := fconv .f64 .f32 (fsqrt (fconv .f32 .f64 c))

theorem fits_root {x : Nat} {c : Option Nat} (h : Fv .f32 x c) : Fits .f64 .f32 (fsqrt (fconv .f32 .f64 c)) := by
  cases c with
  | none => exact fits_none _ _
  | some b =>
    obtain rfl := (cls_some.1 h.is).2
    have hi : rung Ieee.single x ≤ Ieee.single.infRung := (cls_some.1 h.is).1
    by_cases hf : rung Ieee.single x < Ieee.single.infRung
    · exact fits_narrow (P := 1087) (by omega) ((bd_widen rfl h hf).sqrt (by omega) (by omega) (by omega))
    · have hr : rung Ieee.single x = Ieee.single.infRung := by omega
      have hw := word_eq Ieee.single h.lt
      rw [hr] at hw
      rw [← hw]
      cases sgn Ieee.single x
      · have e : fsqrt (fconv .f32 .f64 (some (Ieee.single.word false Ieee.single.infRung))) = some (Ieee.double.word false Ieee.double.infRung) := by decide +kernel
        rw [e]; exact fits_inf false
      · have e : fsqrt (fconv .f32 .f64 (some (Ieee.single.word true Ieee.single.infRung))) = none := by decide +kernel
        rw [e]; exact fits_none _ _

/-! ### the functions -/
theorem sqrt_some {x r : Nat} (h : FloatKind.f64.format.sqrt x = some r) : Extern.MathSqrt.sqrt #[.float .f64 x] = pure (.float .f64 r) := by
  show (match FloatKind.f64.format.sqrt x with | some r => (pure (.float .f64 r) : Sem Value) | none => do pure (.float .f64 (← choose (.nanBits .f64 x x)))) = _
  rw [h]
theorem sqrt_none {x : Nat} (h : FloatKind.f64.format.sqrt x = none) : Extern.MathSqrt.sqrt #[.float .f64 x] = (do pure (.float .f64 (← choose (.nanBits .f64 x x)))) := by
  show (match FloatKind.f64.format.sqrt x with | some r => (pure (.float .f64 r) : Sem Value) | none => do pure (.float .f64 (← choose (.nanBits .f64 x x)))) = _
  rw [h]

theorem narrow_root {x r : Nat} {c : Option Nat} (h : Fv .f32 x c) (hr : Fv .f64 r (fsqrt (fconv .f32 .f64 c))) (w : World) :
    Calls Try.prog 34 #[.float .f64 r] w fun e w' => (∃ r, e = .returned (.float .f32 r) ∧ Fv .f32 r (rootC c)) ∧ ∃ n, w' = w.drewN n := by
  have hfit := fits_root h
  go_enter Try.func34, Try.ntmps34
  go_wp2_with ((with_reducible apply upon_float_conv); exact f64some; exact Try.underlying22; assumption; assumption; intro r3 n3 hr3; (try rw [World.drewN_drewN]); simp only [Act.put, List.setIfInBounds_toArray, List.set_cons_zero, List.set_cons_succ])
  go_ret
  exact ⟨⟨_, rfl, hr3⟩, _, rfl⟩

def longC (u : V3) : Option Nat := rootC (innerC u u)
def longTC (t : V4) : Option Nat := rootC (inner4C t t)

end Go.Proofs.Ytpfijbgkhekjfab
