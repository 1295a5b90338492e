/-
  The logarithm, in 64 bits: the program's and the reference's do the same operations. No condition.
-/
import Derived.Test.YtpfijbgkhekjfabVi
import Derived.Test.YtpfijbgkhekjfabFh
set_option linter.unusedVariables false
namespace Go.Proofs.Ytpfijbgkhekjfab
open Go.RowKit Go.Proofs.Ytpfijbgkhekjfab.Fl

def fltOf : Value → Nat
  | .float _ b => b
  | _ => 0
abbrev two6 : Option Nat := some 4611686018427387904
abbrev ln26 : Option Nat := some 4604418534313441775
/-- How often a number is halved till it lies between 0.75 and 1.5, and what it has become. -/
def logK (b : Nat) : Int := ((b : Int) - 4604930618986332160) / 4503599627370496
def logB (b : Nat) : Nat := ((b : Int) - logK b * 4503599627370496).toNat
def logS (x : Option Nat) : Option Nat := D6 (B6 x one6) (A6 x one6)
def itQ (u : Option Nat) : Nat → Option Nat
  | 0 => some 0
  | n + 1 => A6 (D6 one6 (some (FloatKind.f64.nearest (25 - 2 * (n : Int))))) (M6 u (itQ u n))
def logR (x : Option Nat) (K : Int) : Option Nat := A6 (M6 two6 (M6 (logS x) (itQ (M6 (logS x) (logS x)) 13))) (M6 (some (FloatKind.f64.nearest K)) ln26)
def logW (b : Nat) : Option Nat := logR (some (logB b)) (logK b)
def Ret6 (c : Option Nat) (w : World) (e : Ending) (w' : World) : Prop := (∃ r, e = .returned (.float .f64 r) ∧ Fv .f64 r c) ∧ ∃ n, w' = w.drewN n

/-! ### bounds -/
theorem bd_itQ {u : Option Nat} (hu : Bd u 1027) : ∀ n, n ≤ 13 → Bd (itQ u n) (1023 + 5 * n)
  | 0, _ => bd_zero _
  | n + 1, h => by
    have ih := bd_itQ hu n (by omega)
    have hc : (25 - 2 * (n : Int)) ≠ 0 := by omega
    have hm : Bd (M6 u (itQ u n)) (1027 + 5 * n) := Bd.mul (P := 1027) (Q := 1023 + 5 * n) (by omega) (by omega) (by omega) (by omega) (by omega) (by omega) hu ih
    have hq : Bd (D6 one6 (some (FloatKind.f64.nearest (25 - 2 * (n : Int))))) 1023 :=
      Bd.quo (P := 1023) (Q := 1023) (by omega) (by omega) (by omega) (by omega) (by omega) (one_bd _ (by omega)) (lo_int hc) ((bd_int (P := 1040) (by omega) (Or.inr ⟨by omega, by omega⟩)).mono (by omega))
    exact (Bd.add (P := 1027 + 5 * n) (by omega) (by omega) (hq.mono (by omega)) hm).mono (by omega)

theorem fits_log {b : Nat} (hlo : 2 ^ 52 ≤ b) (hhi : b < 2047 * 2 ^ 52) : Fits .f64 .f32 (logW b) := by
  have hB : 4604930618986332160 ≤ logB b ∧ logB b < 4609434218613702656 := by unfold logB logK; omega
  have hK : (logK b).natAbs ≤ 2 ^ 12 := by unfold logK; omega
  unfold logW
  generalize logB b = x at *
  generalize logK b = K at *
  have bx : Bd (some x) 1024 := by
    intro c hc
    cases hc
    rw [pos_rung (by omega)]; omega
  have px : Pos (some x) := by
    intro c hc
    cases hc
    exact pos_sgn (by omega)
  have h1 : Bd (B6 (some x) one6) 1025 := Bd.sub (P := 1024) (by omega) (by omega) bx (one_bd _ (by omega))
  have h2 := one_add (P := 1024) (by omega) (by omega) bx px
  rw [show A6 one6 (some x) = A6 (some x) one6 from add_comm6 _ _] at h2
  have hs : Bd (logS (some x)) 1025 := Bd.quo (P := 1025) (Q := 1023) (by omega) (by omega) (by omega) (by omega) (by omega) h1 h2.2.1 (h2.1.mono (by omega))
  have hu : Bd (M6 (logS (some x)) (logS (some x))) 1027 := Bd.mul (P := 1025) (Q := 1025) (by omega) (by omega) (by omega) (by omega) (by omega) (by omega) hs hs
  have hq := bd_itQ hu 13 (by omega)
  have h3 : Bd (M6 (logS (some x)) (itQ (M6 (logS (some x)) (logS (some x))) 13)) 1090 := Bd.mul (P := 1025) (Q := 1088) (by omega) (by omega) (by omega) (by omega) (by omega) (by omega) hs hq
  have h4 : Bd (M6 two6 (M6 (logS (some x)) (itQ (M6 (logS (some x)) (logS (some x))) 13))) 1091 := Bd.mul (P := 1024) (Q := 1090) (by omega) (by omega) (by omega) (by omega) (by omega) (by omega) (bd_const (by decide)) h3
  have h5 : Bd (M6 (some (FloatKind.f64.nearest K)) ln26) 1035 := Bd.mul (P := 1035) (Q := 1023) (by omega) (by omega) (by omega) (by omega) (by omega) (by omega) (bd_int (by omega) (Or.inr ⟨by omega, hK⟩)) (bd_const (by decide))
  have h6 : Bd (logR (some x) K) 1092 := Bd.add (P := 1091) (by omega) (by omega) h4 (h5.mono (by omega))
  exact fits_narrow (by omega) h6

set_option maxHeartbeats 16000000 in
theorem c_impl_logarithm {b0 : Nat} (hlo : 2 ^ 52 ≤ b0) (hhi : b0 < 2047 * 2 ^ 52) (w : World) :
    Calls Try.prog 27 #[.float .f64 b0] w (Ret6 (logW b0) w) := by
  unfold logW
  go_enter Try.func27, Try.ntmps27
  go_wp2_with fail
  go_loopw [0, 3] (fun x e wr => ∃ k b : Nat, x = .float .f64 b ∧ e = .int .i64 k ∧ b + k * 2 ^ 52 = b0 ∧ (k = 0 ∨ 4604930618986332160 ≤ b) ∧ 2 ^ 52 ≤ b ∧ ∃ n, wr = w.drewN n) (fun x _ _ => fltOf x)
  case atStart => exact ⟨0, b0, rfl, rfl, by omega, Or.inl rfl, hlo, 0, rfl⟩
  case round =>
    obtain ⟨k, b, rfl, rfl, hkb, hkl, hb1, n, rfl⟩ := hrel
    have hk : k ≤ 2047 := by omega
    have hge := ge_pos (a := b) (b := 4609434218613702656) (by omega) (by omega)
    by_cases hlt : 4609434218613702656 ≤ b
    · rw [decide_eq_true hlt] at hge
      have hq := quo_two (b := b) (by omega) (by omega)
      have hb : Fv .f64 b (some b) := fv_pos (by omega)
      have HN := Lib.hid (And.intro hq (And.intro hkb (And.intro hkl hb1)))
      clear hq hkb hkl hb1
      go_wp2_with fail
      (with_reducible apply upon_float_bin); exact rfl; exact hb; exact (fvc rfl : Fv .f64 4611686018427387904 (some 4611686018427387904)); intro r nr hr; (try rw [World.drewN_drewN]); simp only [Act.put, List.setIfInBounds_toArray, List.set_cons_zero, List.set_cons_succ]
      go_wp2_with fail
      obtain ⟨hq, hkb, hkl, hb1⟩ := HN.out
      obtain ⟨b2, hb2⟩ : ∃ b2, b2 = b - 2 ^ 52 := ⟨_, rfl⟩
      rw [hq, ← hb2] at hr
      obtain rfl := (cls_some.1 hr.is).2
      go_roundw
      case rel => exact ⟨k + 1, r, rfl, by go_num, by omega, Or.inr (by omega), by omega, _, rfl⟩
      case measure => simp only [fltOf]; omega
    · rw [decide_eq_false hlt] at hge
      have hkb' : (b : Int) + (k : Int) * 2 ^ 52 = (b0 : Int) := by omega
      have hkl' : 4604930618986332160 ≤ b ∨ (k : Int) ≤ 0 := by omega
      have hbH : b < 4609434218613702656 := by omega
      have hk2 : (-2047 : Int) ≤ (k : Int) ∧ (k : Int) ≤ 2047 := by omega
      clear hkb hkl hlt hk
      generalize hkk : (k : Int) = K at *
      clear hkk
      have HN := Lib.hid (And.intro hkb' (And.intro hkl' (And.intro hbH (And.intro hb1 hk2))))
      clear hkb' hkl' hbH hb1 hk2
      go_wp2_with fail
      go_loopw [0, 3] (fun x e wr => ∃ (K : Int) (b : Nat), x = .float .f64 b ∧ e = .int .i64 K ∧ (b : Int) + K * 2 ^ 52 = (b0 : Int) ∧ (4604930618986332160 ≤ b ∨ K ≤ 0) ∧ b < 4609434218613702656 ∧ 2 ^ 52 ≤ b ∧ ∃ n, wr = w.drewN n) (fun x _ _ => 4609434218613702656 - fltOf x)
      case atStart =>
        obtain ⟨a1, a2, a3, a4, a5⟩ := HN.out
        exact ⟨K, b, rfl, rfl, a1, a2, a3, a4, _, rfl⟩
      case round =>
        clear HN hge
        obtain ⟨K, b, rfl, rfl, hkb, hkl, hbH, hb1, n, rfl⟩ := hrel
        have hk1 : -2047 ≤ K := by omega
        have hk2 : K ≤ 2047 := by omega
        have hlt' := lt_pos (a := b) (b := 4604930618986332160) (by omega) (by omega)
        by_cases hlt : b < 4604930618986332160
        · rw [decide_eq_true hlt] at hlt'
          have hq := mul_two (b := b) (by omega) (by omega)
          have hb : Fv .f64 b (some b) := fv_pos (by omega)
          have HN := Lib.hid (And.intro hq (And.intro hkb (And.intro hkl (And.intro hbH hb1))))
          clear hq hkb hkl hb1 hbH
          go_wp2_with fail
          (with_reducible apply upon_float_bin); exact rfl; exact hb; exact (fvc rfl : Fv .f64 4611686018427387904 (some 4611686018427387904)); intro r nr hr; (try rw [World.drewN_drewN]); simp only [Act.put, List.setIfInBounds_toArray, List.set_cons_zero, List.set_cons_succ]
          go_wp2_with fail
          obtain ⟨hq, hkb, hkl, hbH, hb1⟩ := HN.out
          obtain ⟨b2, hb2⟩ : ∃ b2, b2 = b + 2 ^ 52 := ⟨_, rfl⟩
          rw [hq, ← hb2] at hr
          obtain rfl := (cls_some.1 hr.is).2
          go_roundw
          case rel => exact ⟨K - 1, r, rfl, by go_num, by omega, Or.inr (by omega), by omega, by omega, _, rfl⟩
          case measure => simp only [fltOf]; omega
        · rw [decide_eq_false hlt] at hlt'
          obtain ⟨rfl, rfl⟩ : K = logK b0 ∧ b = logB b0 := by unfold logB logK; omega
          have hX : Fv .f64 (logB b0) (some (logB b0)) := fv_pos (by omega)
          clear hkb hkl hbH hb1 hlt
          generalize logB b0 = b at *
          generalize logK b0 = K at *
          have hK := fv_int K
          go_wp2_with fail
          (with_reducible apply upon_float_bin); exact rfl; exact hX; exact (fvc rfl : Fv .f64 4607182418800017408 (some 4607182418800017408)); intro r1 nr1 hr1; (try rw [World.drewN_drewN]); simp only [Act.put, List.setIfInBounds_toArray, List.set_cons_zero, List.set_cons_succ]
          go_wp2_with fail
          (with_reducible apply upon_float_bin); exact rfl; exact hX; exact (fvc rfl : Fv .f64 4607182418800017408 (some 4607182418800017408)); intro r2 nr2 hr2; (try rw [World.drewN_drewN]); simp only [Act.put, List.setIfInBounds_toArray, List.set_cons_zero, List.set_cons_succ]
          go_wp2_with fail
          (with_reducible apply upon_float_bin); exact rfl; exact hr1; exact hr2; intro s ns hs; (try rw [World.drewN_drewN]); simp only [Act.put, List.setIfInBounds_toArray, List.set_cons_zero, List.set_cons_succ]
          obtain ⟨Z, hZ⟩ : ∃ Z, Z = logS (some b) := ⟨_, rfl⟩
          replace hs : Fv .f64 s Z := by rw [hZ]; exact hs
          have HC := Lib.hid (show logR (some b) K = A6 (M6 two6 (M6 Z (itQ (M6 Z Z) 13))) (M6 (some (FloatKind.f64.nearest K)) ln26) by rw [hZ]; rfl)
          clear hZ
          go_wp2_with fail
          (with_reducible apply upon_float_bin); exact rfl; exact hs; exact hs; intro u nu hu; (try rw [World.drewN_drewN]); simp only [Act.put, List.setIfInBounds_toArray, List.set_cons_zero, List.set_cons_succ]
          go_wp2_with fail
          go_loopw [6, 7] (fun q i wr => ∃ k r : Nat, k ≤ 13 ∧ i = .int .i64 (25 - 2 * (k : Int)) ∧ q = .float .f64 r ∧ Fv .f64 r (itQ (M6 Z Z) k) ∧ ∃ n, wr = w.drewN n) (fun _ i _ => (intOf i + 1).toNat)
          case atStart => exact ⟨0, _, by omega, rfl, rfl, (fvc rfl : Fv .f64 0 (some 0)), _, rfl⟩
          case round =>
            obtain ⟨k, rq, hk, rfl, rfl, hq, n, rfl⟩ := hrel
            by_cases hlt : k < 13
            · go_wp2_with fail
              (with_reducible apply upon_float_bin); exact rfl; exact (fvc rfl : Fv .f64 4607182418800017408 (some 4607182418800017408)); exact fv_int _; intro ra nra hra; (try rw [World.drewN_drewN]); simp only [Act.put, List.setIfInBounds_toArray, List.set_cons_zero, List.set_cons_succ]
              go_wp2_with fail
              (with_reducible apply upon_float_bin); exact rfl; exact hu; exact hq; intro rb nrb hrb; (try rw [World.drewN_drewN]); simp only [Act.put, List.setIfInBounds_toArray, List.set_cons_zero, List.set_cons_succ]
              go_wp2_with fail
              (with_reducible apply upon_float_bin); exact rfl; exact hra; exact hrb; intro rc nrc hrc; (try rw [World.drewN_drewN]); simp only [Act.put, List.setIfInBounds_toArray, List.set_cons_zero, List.set_cons_succ]
              go_wp2_with fail
              go_roundw
              case rel => exact ⟨k + 1, _, by omega, by go_num, rfl, hrc, _, rfl⟩
              case measure => simp [intOf]; omega
            · obtain rfl : k = 13 := by omega
              go_wp2_with fail
              (with_reducible apply upon_float_bin); exact rfl; exact hs; exact hq; intro ra nra hra; (try rw [World.drewN_drewN]); simp only [Act.put, List.setIfInBounds_toArray, List.set_cons_zero, List.set_cons_succ]
              go_wp2_with fail
              (with_reducible apply upon_float_bin); exact rfl; exact (fvc rfl : Fv .f64 4611686018427387904 (some 4611686018427387904)); exact hra; intro rb nrb hrb; (try rw [World.drewN_drewN]); simp only [Act.put, List.setIfInBounds_toArray, List.set_cons_zero, List.set_cons_succ]
              go_wp2_with fail
              (with_reducible apply upon_float_bin); exact rfl; exact hK; exact (fvc rfl : Fv .f64 4604418534313441775 (some 4604418534313441775)); intro rc nrc hrc; (try rw [World.drewN_drewN]); simp only [Act.put, List.setIfInBounds_toArray, List.set_cons_zero, List.set_cons_succ]
              go_wp2_with fail
              (with_reducible apply upon_float_bin); exact rfl; exact hrb; exact hrc; intro rd nrd hrd; (try rw [World.drewN_drewN]); simp only [Act.put, List.setIfInBounds_toArray, List.set_cons_zero, List.set_cons_succ]
              go_wp2_with fail
              go_ret
              exact ⟨⟨_, rfl, by rw [HC.out]; exact hrd⟩, _, rfl⟩

/-! ### the numbers that have a logarithm -/
def lt5 (c : Option Nat) : Bool := ford .f32 c (some 0) == some .lt
def logT (c : Option Nat) : Option Nat := match lt5 c with
  | true => none
  | false => match eq5 c with
    | true => some 4286578688
    | false => match finB c with
      | false => c
      | true => fconv .f64 .f32 ((fconv .f32 .f64 c).bind logW)

theorem pos_widen {x y : Nat} {c : Option Nat} (h : Fv .f32 x c) (hl : lt5 c = false) (he : eq5 c = false) (hf : finB c = true) (hy : Fv .f64 y (fconv .f32 .f64 c)) :
    fconv .f32 .f64 c = some y ∧ 2 ^ 52 ≤ y ∧ y < 2047 * 2 ^ 52 := by
  cases c with
  | none => exact absurd hf (by decide)
  | some b =>
    obtain rfl := (cls_some.1 h.is).2
    have hi := (cls_some.1 h.is).1
    have hr : rung Ieee.single x < Ieee.single.infRung := by
      have e1 : finB (some x) = decide (rung Ieee.single x < Ieee.single.infRung) := finK_some (k := .f32) hi
      rw [e1] at hf
      exact of_decide_eq_true hf
    obtain ⟨r, h1, h2, h3, _, h5⟩ := widen_some h
    obtain ⟨h6, h7⟩ := h5 hr
    rw [h1] at hy
    obtain rfl := (cls_some.1 hy.is).2
    -- the sign and that it is not zero
    have hs : srung Ieee.single x > 0 := by
      unfold lt5 at hl
      unfold eq5 at he
      rw [ford_some, cmp_lt'] at hl
      rw [ford_some, cmp_eq'] at he
      have e0 : srung FloatKind.f32.format 0 = 0 := by decide
      rw [e0] at hl he
      have a1 := of_decide_eq_false hl
      have a2 := of_decide_eq_false he
      show (0 : Int) < srung FloatKind.f32.format x
      omega
    have hsg : sgn Ieee.single x = false := by
      cases hq : sgn Ieee.single x with
      | false => rfl
      | true =>
        unfold srung pm at hs
        rw [hq] at hs
        simp at hs
        omega
    have hr0 : rung Ieee.single x ≠ 0 := by
      intro e
      unfold srung pm at hs
      rw [hsg, e] at hs
      simp at hs
    rw [hsg] at h3
    have hyw := word_eq Ieee.double h2.lt
    rw [h3] at hyw
    have hyr : rung Ieee.double y = y := hyw
    have hi2 : Ieee.double.infRung = 2047 * 2 ^ 52 := by decide
    rw [hyr] at h6 h7
    refine ⟨h1, ?_, by rw [← hi2]; exact h6⟩
    obtain ⟨d, hd⟩ : ∃ d, d = 925 := ⟨_, rfl⟩
    rw [← hd] at h7
    have hsv : 1 ≤ sv Ieee.single (rung Ieee.single x) := by
      have := (sv_lt_iff Ieee.single 0 (rung Ieee.single x)).2 (by omega)
      omega
    have hbig : 2 ^ 52 ≤ sv Ieee.double y := by
      rw [h7]
      calc 2 ^ 52 ≤ 2 ^ d := Nat.pow_le_pow_right (by omega) (by omega)
        _ ≤ _ := Nat.le_mul_of_pos_left _ hsv
    rw [← sv_binade 1 (by omega)] at hbig
    have := (sv_le_iff Ieee.double _ _).1 hbig
    omega

theorem c_math_InfNeg (w : World) : Calls Try.prog 25 #[.int .i64 (-1)] w fun e w' => e = .returned (.float .f64 18442240474082181120) ∧ w = w' := by
  have hy := f64from
  go_enter Try.func25, Try.ntmps25
  go_wp2
  go_ret
  exact ⟨rfl, rfl⟩

theorem inf_narrow : fconv .f64 .f32 (some 18442240474082181120) = some 4286578688 := by decide +kernel

theorem ne_self {k : FloatKind} {x : Nat} {c : Option Nat} (h : Fv k x c) : (k.format.order x x != some .eq) = c.isNone := by
  cases c with
  | none => rw [ord_none h]; rfl
  | some b => rw [ord_some h]; rfl

theorem c_impl_LogNumber {x : Nat} {c : Option Nat} (h : Fv .f32 x c) (w : World) : Calls Try.prog 12 #[.float .f32 x] w (RetF .f32 (logT c) w) := by
  have on := ne_self h
  have ol : (FloatKind.f32.format.order x 0 == some .lt) = lt5 c := by rw [order_fv h (fvc rfl : Fv .f32 0 (some 0))]; rfl
  have oe : (FloatKind.f32.format.order x 0 == some .eq) = eq5 c := by rw [order_fv h (fvc rfl : Fv .f32 0 (some 0))]; rfl
  cases q0 : c.isNone with
  | true =>
    have e : logT c = none := by
      cases c with
      | none => rfl
      | some b => cases q0
    rw [e]; clear e
    rw [q0] at on
    clear ol oe
    go_enter Try.func12, Try.ntmps12
    go_wp2_with fail
    refine (c_impl_notNumber _).mono ?_; rintro e w' ⟨⟨r2, rfl, hr2⟩, m, rfl⟩
    go_wp2_with fail
    go_ret
    exact ⟨⟨_, rfl, hr2⟩, by (repeat (first | exact Below.refl _ _ | (refine below_drewN ?_ _) | (refine Below.drew ?_) | (refine Below.setCell ?_ (by first | omega | (simp; try omega)) _) | (refine Below.alloc ?_ (by first | omega | (simp; try omega)) _) | (refine Below.trans ?_ (Below.mono (by assumption) (by first | omega | (simp; try omega))))))⟩
  | false =>
  rw [q0] at on
  cases q1 : lt5 c with
  | true =>
    have e : logT c = none := by unfold logT; rw [q1]
    rw [e]; clear e
    rw [q1] at ol
    clear oe
    go_enter Try.func12, Try.ntmps12
    go_wp2_with fail
    refine (c_impl_notNumber _).mono ?_; rintro e w' ⟨⟨r2, rfl, hr2⟩, m, rfl⟩
    go_wp2_with fail
    go_ret
    exact ⟨⟨_, rfl, hr2⟩, by (repeat (first | exact Below.refl _ _ | (refine below_drewN ?_ _) | (refine Below.drew ?_) | (refine Below.setCell ?_ (by first | omega | (simp; try omega)) _) | (refine Below.alloc ?_ (by first | omega | (simp; try omega)) _) | (refine Below.trans ?_ (Below.mono (by assumption) (by first | omega | (simp; try omega))))))⟩
  | false =>
  rw [q1] at ol
  cases q2 : eq5 c with
  | true =>
    have e : logT c = fconv .f64 .f32 (some 18442240474082181120) := by unfold logT; rw [q1, q2, inf_narrow]
    rw [e]; clear e
    rw [q2] at oe
    go_enter Try.func12, Try.ntmps12
    go_wp2_with fail
    refine (c_math_InfNeg _).mono ?_; rintro e w' ⟨rfl, rfl⟩
    go_wp2_with fail
    (with_reducible apply upon_float_conv); exact f64some; exact Try.underlying22; exact (fvc rfl : Fv .f64 18442240474082181120 (some 18442240474082181120)); exact fits_inf true; intro r8 n8 hr8; (try rw [World.drewN_drewN]); simp only [Act.put, List.setIfInBounds_toArray, List.set_cons_zero, List.set_cons_succ]
    go_wp2_with fail
    go_ret
    exact ⟨⟨_, rfl, hr8⟩, by (repeat (first | exact Below.refl _ _ | (refine below_drewN ?_ _) | (refine Below.drew ?_) | (refine Below.setCell ?_ (by first | omega | (simp; try omega)) _) | (refine Below.alloc ?_ (by first | omega | (simp; try omega)) _) | (refine Below.trans ?_ (Below.mono (by assumption) (by first | omega | (simp; try omega))))))⟩
  | false =>
  rw [q2] at oe
  cases q3 : finB c with
  | false =>
    have e : logT c = c := by unfold logT; rw [q1, q2, q3]
    rw [e]; clear e
    go_enter Try.func12, Try.ntmps12
    go_wp2_with fail
    refine (isFinite_impl _ _ h _).mono ?_; rintro e w' ⟨rfl, n, rfl⟩; rw [q3]
    go_wp2_with fail
    go_ret
    exact ⟨⟨_, rfl, h⟩, by (repeat (first | exact Below.refl _ _ | (refine below_drewN ?_ _) | (refine Below.drew ?_) | (refine Below.setCell ?_ (by first | omega | (simp; try omega)) _) | (refine Below.alloc ?_ (by first | omega | (simp; try omega)) _) | (refine Below.trans ?_ (Below.mono (by assumption) (by first | omega | (simp; try omega))))))⟩
  | true =>
    have HP := Lib.hid (fun (y : Nat) (hy : Fv .f64 y (fconv .f32 .f64 c)) => pos_widen h q1 q2 q3 hy)
    have HE := Lib.hid (show logT c = fconv .f64 .f32 ((fconv .f32 .f64 c).bind logW) by unfold logT; rw [q1, q2, q3])
    go_enter Try.func12, Try.ntmps12
    go_wp2_with fail
    refine (isFinite_impl _ _ h _).mono ?_; rintro e w' ⟨rfl, n, rfl⟩; rw [q3]
    go_wp2_with fail
    (with_reducible apply upon_float_conv); exact f32some; exact Try.underlying25; exact h; exact fits_widen h; intro r5 n5 hr5; (try rw [World.drewN_drewN]); simp only [Act.put, List.setIfInBounds_toArray, List.set_cons_zero, List.set_cons_succ]
    obtain ⟨e1, hlo, hhi⟩ := HP.out r5 hr5
    have HF := Lib.hid (And.intro e1 (fits_log hlo hhi))
    have HL := Lib.hid (fun w => c_impl_logarithm hlo hhi w)
    clear e1 hlo hhi
    go_wp2_with fail
    refine (HL.out _).mono ?_; rintro e w' ⟨⟨r7, rfl, hr7⟩, m, rfl⟩
    go_wp2_with fail
    (with_reducible apply upon_float_conv); exact f64some; exact Try.underlying22; exact hr7; exact HF.out.2; intro r8 n8 hr8; (try rw [World.drewN_drewN]); simp only [Act.put, List.setIfInBounds_toArray, List.set_cons_zero, List.set_cons_succ]
    go_wp2_with fail
    go_ret
    exact ⟨⟨_, rfl, by rw [HE.out, HF.out.1]; exact hr8⟩, by (repeat (first | exact Below.refl _ _ | (refine below_drewN ?_ _) | (refine Below.drew ?_) | (refine Below.setCell ?_ (by first | omega | (simp; try omega)) _) | (refine Below.alloc ?_ (by first | omega | (simp; try omega)) _) | (refine Below.trans ?_ (Below.mono (by assumption) (by first | omega | (simp; try omega))))))⟩

theorem c_math_IsInf {x : Nat} {c : Option Nat} (h : Fv .f64 x c) (w : World) : Calls Try.prog 43 #[.float .f64 x, .int .i64 1] w fun e w' => e = .returned (.bool (gt6 c (some 9218868437227405311))) ∧ w = w' := by
  have og : (FloatKind.f64.format.order x 9218868437227405311 == some .gt) = gt6 c (some 9218868437227405311) := by rw [order_fv h (fvc rfl : Fv .f64 9218868437227405311 (some 9218868437227405311))]; rfl
  cases q : gt6 c (some 9218868437227405311) <;> rw [q] at og <;> (
    go_enter Try.func43, Try.ntmps43
    go_wp2
    go_ret
    exact ⟨rfl, rfl⟩)

/-- Infinity is greater than the greatest number; no finite one is. -/
theorem gt_max {x : Nat} {c : Option Nat} (h : Fv .f64 x c) (hn : c.isNone = false) (hl : (ford .f64 c (some 0) == some .lt) = false) : gt6 c (some 9218868437227405311) = !finK .f64 c := by
  cases c with
  | none => cases hn
  | some b =>
    obtain rfl := (cls_some.1 h.is).2
    have hi := (cls_some.1 h.is).1
    rw [finK_some hi]
    unfold gt6
    rw [ford_some, cmp_gt']
    rw [ford_some, cmp_lt'] at hl
    have e0 : srung FloatKind.f64.format 0 = 0 := by decide
    have e1 : srung FloatKind.f64.format 9218868437227405311 = 9218868437227405311 := by decide
    have e2 : FloatKind.f64.format.infRung = 9218868437227405312 := by decide
    rw [e0] at hl
    rw [e1, e2]
    have hl' := of_decide_eq_false hl
    have e3 : srung FloatKind.f64.format x = pm (sgn FloatKind.f64.format x) (rung FloatKind.f64.format x) := rfl
    rw [e3] at hl' ⊢
    rw [e2] at hi
    unfold pm at *
    rw [Bool.eq_iff_iff]
    cases hs : sgn FloatKind.f64.format x with
    | false => simp; omega
    | true =>
      rw [hs] at hl'
      simp at hl' ⊢
      omega

set_option maxHeartbeats 16000000 in
theorem spec_log {b0 : Nat} (hlo : 2 ^ 52 ≤ b0) (hhi : b0 < 2047 * 2 ^ 52) (w : World) :
    Calls Try.prog 39 #[.float .f64 b0] w (Ret6 (logW b0) w) := by
  have h : Fv .f64 b0 (some b0) := fv_pos (by omega)
  have on := ne_self h
  have e1 : (some b0).isNone = false := rfl
  rw [e1] at on
  have ol : (FloatKind.f64.format.order b0 0 == some .lt) = false := by rw [lt_pos (by omega) (by omega)]; simp
  have oe : (FloatKind.f64.format.order b0 0 == some .eq) = false := by rw [ord_pos (by omega) (by omega), cmp_eq']; simp; omega
  have og : gt6 (some b0) (some 9218868437227405311) = false := by
    have e : ford .f64 (some b0) (some 9218868437227405311) = FloatKind.f64.format.order b0 9218868437227405311 := (order_fv h (fv_pos (by omega))).symm
    unfold gt6
    rw [e, ord_pos (by omega) (by omega), cmp_gt']
    simp; omega
  unfold logW
  go_enter Try.func39, Try.ntmps39
  go_wp2_with fail
  refine (c_math_IsInf h _).mono ?_; rintro e w' ⟨rfl, rfl⟩; rw [og]
  clear og ol oe on e1 h
  go_wp2_with fail
  go_loopw [0, 3] (fun x e wr => ∃ k b : Nat, x = .float .f64 b ∧ e = .int .i64 k ∧ b + k * 2 ^ 52 = b0 ∧ (k = 0 ∨ 4604930618986332160 ≤ b) ∧ 2 ^ 52 ≤ b ∧ ∃ n, wr = w.drewN n) (fun x _ _ => fltOf x)
  case atStart => exact ⟨0, b0, rfl, rfl, by omega, Or.inl rfl, hlo, 0, rfl⟩
  case round =>
    obtain ⟨k, b, rfl, rfl, hkb, hkl, hb1, n, rfl⟩ := hrel
    have hk : k ≤ 2047 := by omega
    have hge := ge_pos (a := b) (b := 4609434218613702656) (by omega) (by omega)
    by_cases hlt : 4609434218613702656 ≤ b
    · rw [decide_eq_true hlt] at hge
      have hq := quo_two (b := b) (by omega) (by omega)
      have hb : Fv .f64 b (some b) := fv_pos (by omega)
      have HN := Lib.hid (And.intro hq (And.intro hkb (And.intro hkl hb1)))
      clear hq hkb hkl hb1
      go_wp2_with fail
      (with_reducible apply upon_float_bin); exact rfl; exact hb; exact (fvc rfl : Fv .f64 4611686018427387904 (some 4611686018427387904)); intro r nr hr; (try rw [World.drewN_drewN]); simp only [Act.put, List.setIfInBounds_toArray, List.set_cons_zero, List.set_cons_succ]
      go_wp2_with fail
      obtain ⟨hq, hkb, hkl, hb1⟩ := HN.out
      obtain ⟨b2, hb2⟩ : ∃ b2, b2 = b - 2 ^ 52 := ⟨_, rfl⟩
      rw [hq, ← hb2] at hr
      obtain rfl := (cls_some.1 hr.is).2
      go_roundw
      case rel => exact ⟨k + 1, r, rfl, by go_num, by omega, Or.inr (by omega), by omega, _, rfl⟩
      case measure => simp only [fltOf]; omega
    · rw [decide_eq_false hlt] at hge
      have hkb' : (b : Int) + (k : Int) * 2 ^ 52 = (b0 : Int) := by omega
      have hkl' : 4604930618986332160 ≤ b ∨ (k : Int) ≤ 0 := by omega
      have hbH : b < 4609434218613702656 := by omega
      have hk2 : (-2047 : Int) ≤ (k : Int) ∧ (k : Int) ≤ 2047 := by omega
      clear hkb hkl hlt hk
      generalize hkk : (k : Int) = K at *
      clear hkk
      have HN := Lib.hid (And.intro hkb' (And.intro hkl' (And.intro hbH (And.intro hb1 hk2))))
      clear hkb' hkl' hbH hb1 hk2
      go_wp2_with fail
      go_loopw [0, 3] (fun x e wr => ∃ (K : Int) (b : Nat), x = .float .f64 b ∧ e = .int .i64 K ∧ (b : Int) + K * 2 ^ 52 = (b0 : Int) ∧ (4604930618986332160 ≤ b ∨ K ≤ 0) ∧ b < 4609434218613702656 ∧ 2 ^ 52 ≤ b ∧ ∃ n, wr = w.drewN n) (fun x _ _ => 4609434218613702656 - fltOf x)
      case atStart =>
        obtain ⟨a1, a2, a3, a4, a5⟩ := HN.out
        exact ⟨K, b, rfl, rfl, a1, a2, a3, a4, _, rfl⟩
      case round =>
        clear HN hge
        obtain ⟨K, b, rfl, rfl, hkb, hkl, hbH, hb1, n, rfl⟩ := hrel
        have hk1 : -2047 ≤ K := by omega
        have hk2 : K ≤ 2047 := by omega
        have hlt' := lt_pos (a := b) (b := 4604930618986332160) (by omega) (by omega)
        by_cases hlt : b < 4604930618986332160
        · rw [decide_eq_true hlt] at hlt'
          have hq := mul_two (b := b) (by omega) (by omega)
          have hb : Fv .f64 b (some b) := fv_pos (by omega)
          have HN := Lib.hid (And.intro hq (And.intro hkb (And.intro hkl (And.intro hbH hb1))))
          clear hq hkb hkl hb1 hbH
          go_wp2_with fail
          (with_reducible apply upon_float_bin); exact rfl; exact hb; exact (fvc rfl : Fv .f64 4611686018427387904 (some 4611686018427387904)); intro r nr hr; (try rw [World.drewN_drewN]); simp only [Act.put, List.setIfInBounds_toArray, List.set_cons_zero, List.set_cons_succ]
          go_wp2_with fail
          obtain ⟨hq, hkb, hkl, hbH, hb1⟩ := HN.out
          obtain ⟨b2, hb2⟩ : ∃ b2, b2 = b + 2 ^ 52 := ⟨_, rfl⟩
          rw [hq, ← hb2] at hr
          obtain rfl := (cls_some.1 hr.is).2
          go_roundw
          case rel => exact ⟨K - 1, r, rfl, by go_num, by omega, Or.inr (by omega), by omega, by omega, _, rfl⟩
          case measure => simp only [fltOf]; omega
        · rw [decide_eq_false hlt] at hlt'
          obtain ⟨rfl, rfl⟩ : K = logK b0 ∧ b = logB b0 := by unfold logB logK; omega
          have hX : Fv .f64 (logB b0) (some (logB b0)) := fv_pos (by omega)
          clear hkb hkl hbH hb1 hlt
          generalize logB b0 = b at *
          generalize logK b0 = K at *
          have hK := fv_int K
          go_wp2_with fail
          (with_reducible apply upon_float_bin); exact rfl; exact hX; exact (fvc rfl : Fv .f64 4607182418800017408 (some 4607182418800017408)); intro r1 nr1 hr1; (try rw [World.drewN_drewN]); simp only [Act.put, List.setIfInBounds_toArray, List.set_cons_zero, List.set_cons_succ]
          go_wp2_with fail
          (with_reducible apply upon_float_bin); exact rfl; exact hX; exact (fvc rfl : Fv .f64 4607182418800017408 (some 4607182418800017408)); intro r2 nr2 hr2; (try rw [World.drewN_drewN]); simp only [Act.put, List.setIfInBounds_toArray, List.set_cons_zero, List.set_cons_succ]
          go_wp2_with fail
          (with_reducible apply upon_float_bin); exact rfl; exact hr1; exact hr2; intro s ns hs; (try rw [World.drewN_drewN]); simp only [Act.put, List.setIfInBounds_toArray, List.set_cons_zero, List.set_cons_succ]
          obtain ⟨Z, hZ⟩ : ∃ Z, Z = logS (some b) := ⟨_, rfl⟩
          replace hs : Fv .f64 s Z := by rw [hZ]; exact hs
          have HC := Lib.hid (show logR (some b) K = A6 (M6 two6 (M6 Z (itQ (M6 Z Z) 13))) (M6 (some (FloatKind.f64.nearest K)) ln26) by rw [hZ]; rfl)
          clear hZ
          go_wp2_with fail
          (with_reducible apply upon_float_bin); exact rfl; exact hs; exact hs; intro u nu hu; (try rw [World.drewN_drewN]); simp only [Act.put, List.setIfInBounds_toArray, List.set_cons_zero, List.set_cons_succ]
          go_wp2_with fail
          go_loopw [6, 7] (fun q i wr => ∃ k r : Nat, k ≤ 13 ∧ i = .int .i64 (25 - 2 * (k : Int)) ∧ q = .float .f64 r ∧ Fv .f64 r (itQ (M6 Z Z) k) ∧ ∃ n, wr = w.drewN n) (fun _ i _ => (intOf i + 1).toNat)
          case atStart => exact ⟨0, _, by omega, rfl, rfl, (fvc rfl : Fv .f64 0 (some 0)), _, rfl⟩
          case round =>
            obtain ⟨k, rq, hk, rfl, rfl, hq, n, rfl⟩ := hrel
            by_cases hlt : k < 13
            · go_wp2_with fail
              (with_reducible apply upon_float_bin); exact rfl; exact (fvc rfl : Fv .f64 4607182418800017408 (some 4607182418800017408)); exact fv_int _; intro ra nra hra; (try rw [World.drewN_drewN]); simp only [Act.put, List.setIfInBounds_toArray, List.set_cons_zero, List.set_cons_succ]
              go_wp2_with fail
              (with_reducible apply upon_float_bin); exact rfl; exact hu; exact hq; intro rb nrb hrb; (try rw [World.drewN_drewN]); simp only [Act.put, List.setIfInBounds_toArray, List.set_cons_zero, List.set_cons_succ]
              go_wp2_with fail
              (with_reducible apply upon_float_bin); exact rfl; exact hra; exact hrb; intro rc nrc hrc; (try rw [World.drewN_drewN]); simp only [Act.put, List.setIfInBounds_toArray, List.set_cons_zero, List.set_cons_succ]
              go_wp2_with fail
              go_roundw
              case rel => exact ⟨k + 1, _, by omega, by go_num, rfl, hrc, _, rfl⟩
              case measure => simp [intOf]; omega
            · obtain rfl : k = 13 := by omega
              go_wp2_with fail
              (with_reducible apply upon_float_bin); exact rfl; exact hs; exact hq; intro ra nra hra; (try rw [World.drewN_drewN]); simp only [Act.put, List.setIfInBounds_toArray, List.set_cons_zero, List.set_cons_succ]
              go_wp2_with fail
              (with_reducible apply upon_float_bin); exact rfl; exact (fvc rfl : Fv .f64 4611686018427387904 (some 4611686018427387904)); exact hra; intro rb nrb hrb; (try rw [World.drewN_drewN]); simp only [Act.put, List.setIfInBounds_toArray, List.set_cons_zero, List.set_cons_succ]
              go_wp2_with fail
              (with_reducible apply upon_float_bin); exact rfl; exact hK; exact (fvc rfl : Fv .f64 4604418534313441775 (some 4604418534313441775)); intro rc nrc hrc; (try rw [World.drewN_drewN]); simp only [Act.put, List.setIfInBounds_toArray, List.set_cons_zero, List.set_cons_succ]
              go_wp2_with fail
              (with_reducible apply upon_float_bin); exact rfl; exact hrb; exact hrc; intro rd nrd hrd; (try rw [World.drewN_drewN]); simp only [Act.put, List.setIfInBounds_toArray, List.set_cons_zero, List.set_cons_succ]
              go_wp2_with fail
              go_ret
              exact ⟨⟨_, rfl, by rw [HC.out]; exact hrd⟩, _, rfl⟩

/-- The reference's logarithm of what a float32 has become. -/
theorem spec_log_any {x y : Nat} {c : Option Nat} (h : Fv .f32 x c) (hy : Fv .f64 y (fconv .f32 .f64 c)) (w : World) :
    Calls Try.prog 39 #[.float .f64 y] w fun e w' => (∃ r C, e = .returned (.float .f64 r) ∧ Fv .f64 r C ∧ Fits .f64 .f32 C ∧ fconv .f64 .f32 C = logT c) ∧ ∃ n, w' = w.drewN n := by
  have e0 : fconv .f32 .f64 (some 0) = some 0 := by decide +kernel
  have hnn : (fconv .f32 .f64 c).isNone = c.isNone := by
    cases c with
    | none => rfl
    | some b =>
      obtain rfl := (cls_some.1 h.is).2
      obtain ⟨r, h1, _⟩ := widen_some h
      rw [h1]; rfl
  have hlt : (ford .f64 (fconv .f32 .f64 c) (some 0) == some .lt) = lt5 c := by
    have := ford_widen h (fvc rfl : Fv .f32 0 (some 0))
    rw [e0] at this
    rw [this]; rfl
  have heq : (ford .f64 (fconv .f32 .f64 c) (some 0) == some .eq) = eq5 c := eq_widen h
  have hfin : finK .f64 (fconv .f32 .f64 c) = finB c := fin_widen h
  have on := ne_self hy
  have ol : (FloatKind.f64.format.order y 0 == some .lt) = lt5 c := by rw [order_fv hy (fvc rfl : Fv .f64 0 (some 0))]; exact hlt
  have oe : (FloatKind.f64.format.order y 0 == some .eq) = eq5 c := by rw [order_fv hy (fvc rfl : Fv .f64 0 (some 0))]; exact heq
  rw [hnn] at on
  cases q0 : c.isNone with
  | true =>
    have e : fconv .f64 .f32 none = logT c := by
      cases c with
      | none => rfl
      | some b => cases q0
    have HE := Lib.hid e
    clear e
    rw [q0] at on
    clear ol oe hlt heq hfin hnn e0
    go_enter Try.func39, Try.ntmps39
    go_wp2_with fail
    refine (c_math_NaN _).mono ?_; rintro e w' ⟨⟨r2, rfl, hr2⟩, m, rfl⟩
    go_wp2_with fail
    go_ret
    exact ⟨⟨_, none, rfl, hr2, fits_none _ _, HE.out⟩, _, rfl⟩
  | false =>
  rw [q0] at on hnn
  cases q1 : lt5 c with
  | true =>
    have HE := Lib.hid (show fconv .f64 .f32 none = logT c by unfold logT; rw [q1]; rfl)
    rw [q1] at ol
    clear oe hlt heq hfin hnn e0
    go_enter Try.func39, Try.ntmps39
    go_wp2_with fail
    refine (c_math_NaN _).mono ?_; rintro e w' ⟨⟨r2, rfl, hr2⟩, m, rfl⟩
    go_wp2_with fail
    go_ret
    exact ⟨⟨_, none, rfl, hr2, fits_none _ _, HE.out⟩, _, rfl⟩
  | false =>
  rw [q1] at ol hlt
  cases q2 : eq5 c with
  | true =>
    have HE := Lib.hid (show fconv .f64 .f32 (some 18442240474082181120) = logT c by unfold logT; rw [q1, q2, inf_narrow])
    rw [q2] at oe
    clear hlt heq hfin hnn e0
    go_enter Try.func39, Try.ntmps39
    go_wp2_with fail
    refine (c_math_InfNeg _).mono ?_; rintro e w' ⟨rfl, rfl⟩
    go_wp2_with fail
    go_ret
    exact ⟨⟨_, _, rfl, (fvc rfl : Fv .f64 18442240474082181120 (some 18442240474082181120)), fits_inf true, HE.out⟩, 0, rfl⟩
  | false =>
  rw [q2] at oe
  have hg := gt_max hy hnn hlt
  rw [hfin] at hg
  cases q3 : finB c with
  | false =>
    have HE := Lib.hid (show Fits .f64 .f32 (fconv .f32 .f64 c) ∧ fconv .f64 .f32 (fconv .f32 .f64 c) = logT c from ⟨(narrow_widen h).1, by rw [(narrow_widen h).2]; unfold logT; rw [q1, q2, q3]⟩)
    rw [q3] at hg
    clear hlt heq hfin hnn e0
    go_enter Try.func39, Try.ntmps39
    go_wp2_with fail
    refine (c_math_IsInf hy _).mono ?_; rintro e w' ⟨rfl, rfl⟩; rw [hg]
    go_wp2_with fail
    go_ret
    exact ⟨⟨_, _, rfl, hy, HE.out⟩, 0, rfl⟩
  | true =>
    obtain ⟨e1, hlo, hhi⟩ := pos_widen h q1 q2 q3 hy
    refine (spec_log hlo hhi w).mono ?_
    rintro e w' ⟨⟨r, rfl, hr⟩, hw⟩
    exact ⟨⟨r, _, rfl, hr, fits_log hlo hhi, by unfold logT; rw [q1, q2, q3, e1]; rfl⟩, hw⟩

theorem c_spec_l01Log {x : Nat} {c : Option Nat} (h : Fv .f32 x c) (w : World) : Calls Try.prog 23 #[.float .f32 x] w (RetF .f32 (logT c) w) := by
  go_enter Try.func23, Try.ntmps23
  go_wp2_with fail
  (with_reducible apply upon_float_conv); exact f32some; exact Try.underlying25; exact h; exact fits_widen h; intro r5 n5 hr5; (try rw [World.drewN_drewN]); simp only [Act.put, List.setIfInBounds_toArray, List.set_cons_zero, List.set_cons_succ]
  go_wp2_with fail
  refine (spec_log_any h hr5 _).mono ?_; rintro e w' ⟨⟨r7, C, rfl, hr7, hfit, hC⟩, m, rfl⟩
  have HC := Lib.hid hC
  clear hC
  go_wp2_with fail
  refine (c_spec_l01Narrow hr7 hfit _).mono ?_; rintro e w' ⟨⟨r8, rfl, hr8⟩, m2, rfl⟩
  go_wp2_with fail
  go_ret
  exact ⟨⟨_, rfl, by rw [← HC.out]; exact hr8⟩, by (repeat (first | exact Below.refl _ _ | (refine below_drewN ?_ _) | (refine Below.drew ?_) | (refine Below.setCell ?_ (by first | omega | (simp; try omega)) _) | (refine Below.alloc ?_ (by first | omega | (simp; try omega)) _) | (refine Below.trans ?_ (Below.mono (by assumption) (by first | omega | (simp; try omega))))))⟩

theorem c_spec_LogNumber {x : Nat} {c : Option Nat} (h : Fv .f32 x c) (w : World) : Calls Try.prog 11 #[.float .f32 x] w (RetF .f32 (logT c) w) := by
  go_enter Try.func11, Try.ntmps11
  go_wp2_with (go_at_call 23; refine (c_spec_l01Log h _).mono ?_; rintro e w' ⟨⟨r2, rfl, h1⟩, hb⟩; obtain ⟨hc, hf⟩ := bcell hb; have hs := hb.size; (try simp at hs))
  go_ret
  exact ⟨⟨_, rfl, h1⟩, by (repeat (first | exact Below.refl _ _ | (refine below_drewN ?_ _) | (refine Below.drew ?_) | (refine Below.setCell ?_ (by first | omega | (simp; try omega)) _) | (refine Below.alloc ?_ (by first | omega | (simp; try omega)) _) | (refine Below.trans ?_ (Below.mono (by assumption) (by first | omega | (simp; try omega))))))⟩

end Go.Proofs.Ytpfijbgkhekjfab
