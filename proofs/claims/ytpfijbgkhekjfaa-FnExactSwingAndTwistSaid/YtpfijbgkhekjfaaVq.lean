/-
  Square roots and lengths. No condition.
-/
import Derived.Test.YtpfijbgkhekjfaaVb
import Derived.Test.YtpfijbgkhekjfaaFs
set_option linter.unusedVariables false
namespace Go.Proofs.Ytpfijbgkhekjfaa
open Go.RowKit Go.Proofs.Ytpfijbgkhekjfaa.Fl

/-! ### the root of a float32, in 64 bits, fits 32 bits -/
theorem bd_widen {b P : Nat} (hP : P = 1151) (h : Fv .f32 b (some b)) (hf : rung Ieee.single b < Ieee.single.infRung) : Bd (fconv .f32 .f64 (some b)) P := by
  obtain ⟨r, h1, h2, h3, _, h5⟩ := widen_some h
  obtain ⟨h6, h7⟩ := h5 hf
  intro c hc
  rw [h1] at hc
  cases hc
  refine (sv_le_iff Ieee.double _ _).1 ?_
  rw [sv_binade P (by omega), h7]
  have hs := (sv_lt_iff Ieee.single _ _).2 hf
  rw [sv_inf Ieee.single (by decide)] at hs
  have e : Ieee.single.fractionBits + (2 ^ Ieee.single.exponentBits - 2) = 277 := rfl
  rw [e] at hs
  exact Nat.le_of_lt (lt_split (n := 277) (c := 925) (N := P + 51) (by omega) hs)

/-- A float32's root. -/
def rootC (c : Option Nat) : Option Nat := fconv .f64 .f32 (fsqrt (fconv .f32 .f64 c))

theorem fits_root {x : Nat} {c : Option Nat} (h : Fv .f32 x c) : Fits .f64 .f32 (fsqrt (fconv .f32 .f64 c)) := by
  cases c with
  | none => exact fits_none _ _
  | some b =>
    obtain rfl := (cls_some.1 h.is).2
    have hi : rung Ieee.single x ≤ Ieee.single.infRung := (cls_some.1 h.is).1
    by_cases hf : rung Ieee.single x < Ieee.single.infRung
    · exact fits_narrow (P := 1087) (by omega) ((bd_widen rfl h hf).sqrt (by omega) (by omega) (by omega))
    · have hr : rung Ieee.single x = Ieee.single.infRung := by omega
      have hw := word_eq Ieee.single h.lt
      rw [hr] at hw
      rw [← hw]
      cases sgn Ieee.single x
      · have e : fsqrt (fconv .f32 .f64 (some (Ieee.single.word false Ieee.single.infRung))) = some (Ieee.double.word false Ieee.double.infRung) := by decide +kernel
        rw [e]; exact fits_inf false
      · have e : fsqrt (fconv .f32 .f64 (some (Ieee.single.word true Ieee.single.infRung))) = none := by decide +kernel
        rw [e]; exact fits_none _ _

/-! ### the functions -/
theorem sqrt_some {x r : Nat} (h : FloatKind.f64.format.sqrt x = some r) : Extern.MathSqrt.sqrt #[.float .f64 x] = pure (.float .f64 r) := by
  show (match FloatKind.f64.format.sqrt x with | some r => (pure (.float .f64 r) : Sem Value) | none => do pure (.float .f64 (← choose (.nanBits .f64 x x)))) = _
  rw [h]
theorem sqrt_none {x : Nat} (h : FloatKind.f64.format.sqrt x = none) : Extern.MathSqrt.sqrt #[.float .f64 x] = (do pure (.float .f64 (← choose (.nanBits .f64 x x)))) := by
  show (match FloatKind.f64.format.sqrt x with | some r => (pure (.float .f64 r) : Sem Value) | none => do pure (.float .f64 (← choose (.nanBits .f64 x x)))) = _
  rw [h]

theorem run_sqrt {x : Nat} {c : Option Nat} (h : Fv .f64 x c) (w : World) : ∃ r n, (callFunc 80 #[.float .f64 x]).run Try.prog w = .ok (.value (.float .f64 r)) (w.drewN n) ∧ Fv .f64 r (fsqrt c) := by
  rw [run_callFunc_extern Try.func80 (by kernel_rfl) (by kernel_rfl) (by kernel_rfl) (e := Extern.MathSqrt.sqrt) (by kernel_rfl)]
  have hc : FloatKind.f64.format.sqrt x = fsqrt c := by rw [sqrt_cls, h.is]
  cases hs : FloatKind.f64.format.sqrt x with
  | some r =>
    refine ⟨r, 0, ?_, FloatKind.f64.format.sqrt_lt hs, ?_⟩
    · rw [sqrt_some hs]
      rfl
    · rw [← hc, hs]; exact (sqrt_fair hs).1
  | none =>
    have hf := fv_nanBits .f64 x x (w.tape w.drawn (.nanBits .f64 x x))
    refine ⟨_, 1, ?_, hf.lt, ?_⟩
    · rw [sqrt_none hs]
      rfl
    · rw [← hc, hs]; exact hf.is

theorem upon_sqrt {Q : Exit → Act → World → Prop} {a : Act} {w : World} {K : Act → World → Prop} {o : Oper} {x : Nat} {c : Option Nat} (h : Fv .f64 x c)
    (hk : ∀ r n, Fv .f64 r (fsqrt c) → K (a.put o.dst (.float .f64 r)) (w.drewN n)) : o.upon Try.prog a K Q ((callFunc 80 #[.float .f64 x]).run Try.prog w) := by
  obtain ⟨r, n, hr, hf⟩ := run_sqrt h w
  rw [hr]
  exact hk r n hf

theorem c_math_Sqrt {x : Nat} {c : Option Nat} (h : Fv .f64 x c) (w : World) :
    Calls Try.prog 71 #[.float .f64 x] w fun e w' => (∃ r, e = .returned (.float .f64 r) ∧ Fv .f64 r (fsqrt c)) ∧ ∃ n, w' = w.drewN n := by
  go_enter Try.func71, Try.ntmps71
  go_wp2_with ((with_reducible apply upon_sqrt); assumption; intro r n hr; (try rw [World.drewN_drewN]); simp only [Act.put, List.setIfInBounds_toArray, List.set_cons_zero, List.set_cons_succ])
  go_ret
  exact ⟨⟨_, rfl, hr⟩, _, rfl⟩

theorem c_impl_RootNumber {x : Nat} {c : Option Nat} (h : Fv .f32 x c) (w : World) : Calls Try.prog 74 #[.float .f32 x] w (RetF .f32 (rootC c) w) := by
  have hfit := fits_root h
  go_enter Try.func74, Try.ntmps74
  go_wp2_with (first
    | ((with_reducible apply upon_float_conv); exact f32some; exact Try.underlying44; assumption; exact fits_widen (by assumption); intro r n hr; (try rw [World.drewN_drewN]); simp only [Act.put, List.setIfInBounds_toArray, List.set_cons_zero, List.set_cons_succ])
    | (go_at_call 71; refine (c_math_Sqrt hr _).mono ?_; rintro e w' ⟨⟨r2, rfl, hr2⟩, m, rfl⟩)
    | ((with_reducible apply upon_float_conv); exact f64some; exact Try.underlying22; assumption; assumption; intro r3 n3 hr3; (try rw [World.drewN_drewN]); simp only [Act.put, List.setIfInBounds_toArray, List.set_cons_zero, List.set_cons_succ]))
  go_ret
  exact ⟨⟨_, rfl, hr3⟩, by (repeat (first | exact Below.refl _ _ | (refine below_drewN ?_ _) | (refine Below.drew ?_) | (refine Below.setCell ?_ (by first | omega | (simp; try omega)) _) | (refine Below.alloc ?_ (by first | omega | (simp; try omega)) _) | (refine Below.trans ?_ (Below.mono (by assumption) (by first | omega | (simp; try omega))))))⟩

theorem narrow_root {x r : Nat} {c : Option Nat} (h : Fv .f32 x c) (hr : Fv .f64 r (fsqrt (fconv .f32 .f64 c))) (w : World) :
    Calls Try.prog 67 #[.float .f64 r] w fun e w' => (∃ r, e = .returned (.float .f32 r) ∧ Fv .f32 r (rootC c)) ∧ ∃ n, w' = w.drewN n := by
  have hfit := fits_root h
  go_enter Try.func67, Try.ntmps67
  go_wp2_with ((with_reducible apply upon_float_conv); exact f64some; exact Try.underlying22; assumption; assumption; intro r3 n3 hr3; (try rw [World.drewN_drewN]); simp only [Act.put, List.setIfInBounds_toArray, List.set_cons_zero, List.set_cons_succ])
  go_ret
  exact ⟨⟨_, rfl, hr3⟩, _, rfl⟩

theorem c_spec_l01Sqrt {x : Nat} {c : Option Nat} (h : Fv .f32 x c) (w : World) : Calls Try.prog 75 #[.float .f32 x] w (RetF .f32 (rootC c) w) := by
  go_enter Try.func75, Try.ntmps75
  go_wp2_with (first
    | ((with_reducible apply upon_float_conv); exact f32some; exact Try.underlying44; assumption; exact fits_widen (by assumption); intro r n hr; (try rw [World.drewN_drewN]); simp only [Act.put, List.setIfInBounds_toArray, List.set_cons_zero, List.set_cons_succ])
    | (go_at_call 71; refine (c_math_Sqrt hr _).mono ?_; rintro e w' ⟨⟨r2, rfl, hr2⟩, m, rfl⟩)
    | (go_at_call 67; refine (narrow_root h hr2 _).mono ?_; rintro e w' ⟨⟨r3, rfl, hr3⟩, m3, rfl⟩))
  go_ret
  exact ⟨⟨_, rfl, hr3⟩, by (repeat (first | exact Below.refl _ _ | (refine below_drewN ?_ _) | (refine Below.drew ?_) | (refine Below.setCell ?_ (by first | omega | (simp; try omega)) _) | (refine Below.alloc ?_ (by first | omega | (simp; try omega)) _) | (refine Below.trans ?_ (Below.mono (by assumption) (by first | omega | (simp; try omega))))))⟩

def longC (u : V3) : Option Nat := rootC (innerC u u)
def longTC (t : V4) : Option Nat := rootC (inner4C t t)

theorem c_impl_LongOf {x y z : Nat} {u : V3} (h : Fv3 x y z u) (w : World) : Calls Try.prog 45 #[vec x y z] w (RetF .f32 (longC u) w) := by
  go_enter Try.func45, Try.ntmps45
  go_wp2_with fail
  refine (c_impl_InnerOf h h _).mono ?_; rintro e w' ⟨⟨r2, rfl, h1⟩, hb⟩; obtain ⟨hc, hf⟩ := bcell hb; have hs := hb.size; (try simp at hs)
  go_wp2_with fail
  refine (c_impl_RootNumber h1 _).mono ?_; rintro e w2 ⟨⟨r3, rfl, h3⟩, hb3⟩
  go_wp2_with fail
  go_ret
  exact ⟨⟨_, rfl, h3⟩, by (repeat (first | exact Below.refl _ _ | (refine below_drewN ?_ _) | (refine Below.drew ?_) | (refine Below.setCell ?_ (by first | omega | (simp; try omega)) _) | (refine Below.alloc ?_ (by first | omega | (simp; try omega)) _) | (refine Below.trans ?_ (Below.mono (by assumption) (by first | omega | (simp; try omega))))))⟩

theorem c_spec_l01Long {x y z : Nat} {u : V3} (h : Fv3 x y z u) (w : World) : Calls Try.prog 72 #[vec x y z] w (RetF .f32 (longC u) w) := by
  go_enter Try.func72, Try.ntmps72
  go_wp2_with fail
  refine (c_spec_l01Inner h h _).mono ?_; rintro e w' ⟨⟨r2, rfl, h1⟩, hb⟩; obtain ⟨hc, hf⟩ := bcell hb; have hs := hb.size; (try simp at hs)
  go_wp2_with fail
  refine (c_spec_l01Sqrt h1 _).mono ?_; rintro e w2 ⟨⟨r3, rfl, h3⟩, hb3⟩
  go_wp2_with fail
  go_ret
  exact ⟨⟨_, rfl, h3⟩, by (repeat (first | exact Below.refl _ _ | (refine below_drewN ?_ _) | (refine Below.drew ?_) | (refine Below.setCell ?_ (by first | omega | (simp; try omega)) _) | (refine Below.alloc ?_ (by first | omega | (simp; try omega)) _) | (refine Below.trans ?_ (Below.mono (by assumption) (by first | omega | (simp; try omega))))))⟩

theorem c_impl_LengthOfTurn {p x y z : Nat} {t : V4} (h : Fv4 p x y z t) (w : World) : Calls Try.prog 60 #[turn p x y z] w (RetF .f32 (longTC t) w) := by
  go_enter Try.func60, Try.ntmps60
  go_wp2_with fail
  refine (c_impl_InnerOfTurns h h _).mono ?_; rintro e w' ⟨⟨r2, rfl, h1⟩, hb⟩; obtain ⟨hc, hf⟩ := bcell hb; have hs := hb.size; (try simp at hs)
  go_wp2_with fail
  refine (c_impl_RootNumber h1 _).mono ?_; rintro e w2 ⟨⟨r3, rfl, h3⟩, hb3⟩
  go_wp2_with fail
  go_ret
  exact ⟨⟨_, rfl, h3⟩, by (repeat (first | exact Below.refl _ _ | (refine below_drewN ?_ _) | (refine Below.drew ?_) | (refine Below.setCell ?_ (by first | omega | (simp; try omega)) _) | (refine Below.alloc ?_ (by first | omega | (simp; try omega)) _) | (refine Below.trans ?_ (Below.mono (by assumption) (by first | omega | (simp; try omega))))))⟩

end Go.Proofs.Ytpfijbgkhekjfaa
