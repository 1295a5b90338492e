/-
  Flushing, and the next numbers up and down. No condition but that the words fit their kinds.
-/
import Derived.Test.YtiacekmicahmbaaWc
set_option linter.unusedVariables false
namespace Go.Proofs.Ytiacekmicahmbaa
open Go.RowKit Go.Proofs.Ytiacekmicahmbaa.Fl

/-- A float of a class. -/
def RetC (k : FloatKind) (c : Option Nat) (w : World) (e : Ending) (w' : World) : Prop :=
  (∃ r, e = .returned (.float k r) ∧ Fv k r c) ∧ ∃ n, w' = w.drewN n

/-! ### flush -/
def flushC : Option Nat → Option Nat
  | none => none
  | some b => if rung Ieee.single b < 2 ^ 23 then some (Ieee.single.word (sgn Ieee.single b) 0) else some b

theorem top_word (x : Nat) (h : x < 2 ^ 32) : x / 2 ^ 31 % 2 ^ 1 * 2 ^ 31 = Ieee.single.word (sgn Ieee.single x) 0 := by
  have e : Ieee.single.signWeight = 2 ^ 31 := rfl
  unfold sgn Ieee.Format.word
  rw [e]
  by_cases hx : x / 2 ^ 31 % 2 = 1
  · simp [hx]
  · have : x / 2 ^ 31 % 2 = 0 := by omega
    simp [this]

theorem top_word64 (x : Nat) (h : x < 2 ^ 64) : x / 2 ^ 63 % 2 ^ 1 * 2 ^ 63 = Ieee.double.word (sgn Ieee.double x) 0 := by
  have e : Ieee.double.signWeight = 2 ^ 63 := rfl
  unfold sgn Ieee.Format.word
  rw [e]
  by_cases hx : x / 2 ^ 63 % 2 = 1
  · simp [hx]
  · have : x / 2 ^ 63 % 2 = 0 := by omega
    simp [this]

theorem fv_sign0 (k : FloatKind) (s : Bool) : Fv k (k.format.word s 0) (some (k.format.word s 0)) := by
  cases k <;> cases s <;> exact fvc rfl

theorem l01Flush_spec (x : Nat) (c : Option Nat) (h : Fv .f32 x c) (w : World) :
    Calls Try.prog 50 #[.float .f32 x] w (RetC .f32 (flushC c) w) := by
  have he := exp_zero h
  cases c with
  | none =>
    have hb := exp_zero_nan
    clear he
    go_enter Try.func50, Try.ntmps50
    go_wp2_with (go_at_call 40; refine (l01Bits_spec _ _ h _).mono ?_; rintro e w' ⟨rfl, n, rfl⟩)
    go_ret
    exact ⟨⟨_, rfl, h⟩, _, rfl⟩
  | some b =>
    obtain rfl := (cls_some.1 h.is).2
    by_cases hr : rung Ieee.single x < 2 ^ 23
    · have hb : (bits .and .i64 (bitsC (some x)) 2139095040 == 0) = true := by rw [he]; simpa using hr
      have hf : flushC (some x) = some (Ieee.single.word (sgn Ieee.single x) 0) := if_pos hr
      have Hf := Lib.hid hf
      clear he hf hr
      go_enter Try.func50, Try.ntmps50
      go_wp2_with (first | (go_at_call 40; refine (l01Bits_spec _ _ h _).mono ?_; rintro e w' ⟨rfl, n, rfl⟩) | (go_at_call 46; refine (l01From_any _ _).mono ?_; rintro e w' ⟨rfl, m, rfl⟩))
      go_ret
      refine ⟨⟨_, rfl, ?_⟩, _, rfl⟩
      have e1 : (bits .and .i64 (bitsC (some x)) 2147483648 % 4294967296).toNat = Ieee.single.word (sgn Ieee.single x) 0 := by
        show (bits .and .i64 (x : Int) 2147483648 % 4294967296).toNat = _
        rw [and_top x h.lt, ← top_word x h.lt]
        omega
      rw [e1, Hf.out]
      exact fv_sign0 .f32 _
    · have hb : (bits .and .i64 (bitsC (some x)) 2139095040 == 0) = false := by rw [he]; simpa using hr
      have hf : flushC (some x) = some x := if_neg hr
      have Hf := Lib.hid hf
      clear he hf hr
      go_enter Try.func50, Try.ntmps50
      go_wp2_with (go_at_call 40; refine (l01Bits_spec _ _ h _).mono ?_; rintro e w' ⟨rfl, n, rfl⟩)
      go_ret
      refine ⟨⟨_, rfl, ?_⟩, _, rfl⟩
      rw [Hf.out]; exact h

theorem flush_spec (x : Nat) (c : Option Nat) (h : Fv .f32 x c) (w : World) :
    Calls Try.prog 32 #[.float .f32 x] w (RetC .f32 (flushC c) w) := by
  go_enter Try.func32, Try.ntmps32
  go_wp2_with (go_at_call 50; refine (l01Flush_spec _ _ h _).mono ?_; rintro e w' ⟨⟨r, rfl, hr⟩, n, rfl⟩)
  go_ret
  exact ⟨⟨_, rfl, hr⟩, _, rfl⟩

theorem copysign_bits (x : Nat) (hx : x < 2 ^ 64) : (bits .or .u64 (bits .andNot .u64 0 9223372036854775808) (bits .and .u64 (x : Int) 9223372036854775808)).toNat = Ieee.double.word (sgn Ieee.double x) 0 := by
  have e0 : bits .andNot .u64 0 9223372036854775808 = ((0 : Nat) : Int) := andNot_top64 0 (by omega)
  rw [and_top64 x hx, e0, bits_or_u64_nat _ _ (by omega) (by omega), Nat.zero_or, top_word64 x hx]
  rfl

theorem copysign_zero (x : Nat) (hx : x < 2 ^ 64) (w : World) :
    Calls Try.prog 51 #[.float .f64 0, .float .f64 x] w fun e w' => e = .returned (.float .f64 (Ieee.double.word (sgn Ieee.double x) 0)) ∧ ∃ n, w' = w.drewN n := by
  have h1 := f64bits
  have h2 := f64from
  go_enter Try.func51, Try.ntmps51
  go_wp2
  go_ret
  exact ⟨ret_f (copysign_bits x hx), 0, rfl⟩

theorem fits_sign0 (s : Bool) : Fits .f64 .f32 (some (Ieee.double.word s 0)) := by
  intro b hb
  cases s <;> cases hb <;> decide +kernel

theorem narrow_sign0 (s : Bool) : fconv .f64 .f32 (some (Ieee.double.word s 0)) = some (Ieee.single.word s 0) := by
  cases s <;> decide +kernel

theorem flushC_of (x : Nat) : (subB (some x) = true → flushC (some x) = some (Ieee.single.word (sgn Ieee.single x) 0)) ∧ (x < 2 ^ 32 → subB (some x) = false → flushC (some x) = some x) := by
  by_cases h0 : rung Ieee.single x = 0
  · refine ⟨(fun h => by rw [subB_zero h0] at h; cases h), fun hx _ => ?_⟩
    have hw := word_eq Ieee.single hx
    rw [h0] at hw
    have : flushC (some x) = some (Ieee.single.word (sgn Ieee.single x) 0) := if_pos (by omega)
    rw [this, hw]
  · rw [subB_pos h0]
    refine ⟨fun h => if_pos ?_, fun _ h => if_neg ?_⟩
    · simp only [decide_eq_true_eq] at h; omega
    · simp only [decide_eq_false_iff_not] at h; omega

theorem flush_impl (x : Nat) (c : Option Nat) (h : Fv .f32 x c) (w : World) :
    Calls Try.prog 33 #[.float .f32 x] w (RetC .f32 (flushC c) w) := by
  cases hs : subB c with
  | true =>
    cases c with
    | none => cases hs
    | some b =>
      obtain rfl := (cls_some.1 h.is).2
      have Hf := Lib.hid ((flushC_of x).1 hs)
      have hfit := fits_sign0
      go_enter Try.func33, Try.ntmps33
      go_wp2_with (first
        | ((with_reducible apply upon_float_conv); exact f32some; exact Try.underlying25; assumption; exact fits_widen (by assumption); intro r n hr; (try rw [World.drewN_drewN]); simp only [Act.put, List.setIfInBounds_toArray, List.set_cons_zero, List.set_cons_succ])
        | ((with_reducible apply upon_float_conv); exact f64some; exact Try.underlying23; exact fv_sign0 .f64 _; exact hfit _; intro r2 n2 hr2; (try rw [World.drewN_drewN]); simp only [Act.put, List.setIfInBounds_toArray, List.set_cons_zero, List.set_cons_succ])
        | (go_at_call 23; refine (isSubnormal_impl _ _ h _).mono ?_; rintro e w' ⟨rfl, n, rfl⟩)
        | (go_at_call 51; refine (copysign_zero _ hr.lt _).mono ?_; rintro e w' ⟨rfl, m, rfl⟩))
      go_ret
      refine ⟨⟨_, rfl, ?_⟩, _, rfl⟩
      rw [Hf.out, ← widen_sgn h hr, ← narrow_sign0]
      exact hr2
  | false =>
    have hf : flushC c = c := by
      cases c with
      | none => rfl
      | some b =>
        obtain rfl := (cls_some.1 h.is).2
        exact (flushC_of x).2 h.lt hs
    have Hf := Lib.hid hf
    clear hf
    go_enter Try.func33, Try.ntmps33
    go_wp2_with (go_at_call 23; refine (isSubnormal_impl _ _ h _).mono ?_; rintro e w' ⟨rfl, n, rfl⟩)
    go_ret
    refine ⟨⟨_, rfl, ?_⟩, _, rfl⟩
    rw [Hf.out]; exact h

theorem walk_FlushNumber (a0 : Nat) (h0 : a0 < 2 ^ FloatKind.f32.format.width) (w : World) :
    Calls Try.prog 12 #[.float .f32 a0] w fun e w' => e = .returned (.bool true) ∧ Below w.heap.size w w' := by
  have h := Fv.self h0
  go_enter Try.func12, Try.ntmps12
  go_wp2_with (first
    | ((with_reducible apply upon_float_conv); exact f32some; exact Try.underlying25; assumption; exact fits_widen (by assumption); intro r n hr; (try rw [World.drewN_drewN]); simp only [Act.put, List.setIfInBounds_toArray, List.set_cons_zero, List.set_cons_succ])
    | (go_at_call 32; refine (flush_spec _ _ h _).mono ?_; rintro e w' ⟨⟨r, rfl, hr⟩, n, rfl⟩)
    | (go_at_call 33; refine (flush_impl _ _ h _).mono ?_; rintro e w' ⟨⟨r, rfl, hr⟩, n, rfl⟩)
    | (go_at_call 19; refine (sameFloat_any _ _ _ (by assumption) (by assumption) _).mono ?_; rintro e w' ⟨rfl, m, rfl⟩))
  go_ret
  exact ⟨rfl, bel_drewN _ _⟩

/-! ### next -/
def nextC : Option Nat → Option Nat
  | none => none
  | some b => if b = 2139095040 then some b else if rung Ieee.single b = 0 then some 1 else if sgn Ieee.single b = true then some (b - 1) else some (b + 1)

theorem sgn_single {x : Nat} (h : x < 2 ^ 32) : (sgn Ieee.single x = false ∧ x = rung Ieee.single x) ∨ (sgn Ieee.single x = true ∧ x = 2147483648 + rung Ieee.single x) := by
  have hw := word_eq Ieee.single h
  cases hs : sgn Ieee.single x with
  | false => rw [hs] at hw; exact .inl ⟨rfl, hw.symm⟩
  | true => rw [hs] at hw; exact .inr ⟨rfl, hw.symm⟩

theorem fv_rung {s : Bool} {r : Nat} (h : r ≤ 2139095040) : Fv .f32 (Ieee.single.word s r) (some (Ieee.single.word s r)) := by
  have hl : r < Ieee.single.signWeight := Nat.lt_of_le_of_lt h (by decide)
  refine ⟨Ieee.single.word_lt s hl, cls_of ?_⟩
  show rung Ieee.single _ ≤ _
  rw [rung_word _ _ hl]
  exact h

theorem l01Next_spec (x : Nat) (c : Option Nat) (h : Fv .f32 x c) (w : World) :
    Calls Try.prog 52 #[.float .f32 x] w (RetC .f32 (nextC c) w) := by
  cases c with
  | none =>
    have h1 := ord_none h
    go_enter Try.func52, Try.ntmps52
    go_wp2_with (go_at_call 40; refine (l01Bits_spec _ _ h _).mono ?_; rintro e w' ⟨rfl, n, rfl⟩)
    go_ret
    exact ⟨⟨_, rfl, h⟩, _, rfl⟩
  | some b =>
    obtain rfl := (cls_some.1 h.is).2
    have h1 := ord_some h
    have hi : rung Ieee.single x ≤ 2139095040 := (cls_some.1 h.is).1
    by_cases hn : x = 2139095040
    · have hb : (bitsC (some x) == 2139095040) = true := by show ((x : Int) == 2139095040) = true; rw [beq_iff_eq]; omega
      have hf : nextC (some x) = some x := if_pos hn
      have Hf := Lib.hid hf
      clear hf hn hi
      go_enter Try.func52, Try.ntmps52
      go_wp2_with (go_at_call 40; refine (l01Bits_spec _ _ h _).mono ?_; rintro e w' ⟨rfl, n, rfl⟩)
      go_ret
      exact ⟨⟨_, rfl, by rw [Hf.out]; exact h⟩, _, rfl⟩
    · have hb : (bitsC (some x) == 2139095040) = false := by show ((x : Int) == 2139095040) = false; rw [beq_eq_false_iff_ne]; omega
      by_cases hr : rung Ieee.single x = 0
      · have hz := ord_zero_eq h hr
        have hf : nextC (some x) = some 1 := by
          show (if _ then _ else _) = _
          rw [if_neg hn, if_pos hr]
        have Hf := Lib.hid hf
        clear hf hn hi hr
        go_enter Try.func52, Try.ntmps52
        go_wp2_with (first | (go_at_call 40; refine (l01Bits_spec _ _ h _).mono ?_; rintro e w' ⟨rfl, n, rfl⟩) | (go_at_call 46; refine (l01From_any _ _).mono ?_; rintro e w' ⟨rfl, m, rfl⟩))
        go_ret
        exact ⟨⟨_, rfl, by rw [Hf.out]; exact fvc rfl⟩, _, rfl⟩
      · rcases sgn_single h.lt with ⟨hs, hx⟩ | ⟨hs, hx⟩
        · have hz := ord_zero_gt h hr hs
          have hf : nextC (some x) = some (Ieee.single.word false (rung Ieee.single x + 1)) := by
            show (if _ then _ else _) = _
            rw [if_neg hn, if_neg hr, if_neg (by rw [hs]; simp)]
            show some (x + 1) = some (rung Ieee.single x + 1)
            rw [← hx]
          have e1 : (wrap64 (bitsC (some x) + 1) % 4294967296).toNat = Ieee.single.word false (rung Ieee.single x + 1) := by
            show (wrap64 ((x : Int) + 1) % 4294967296).toNat = rung Ieee.single x + 1
            unfold wrap64; omega
          have hv : Fv .f32 (Ieee.single.word false (rung Ieee.single x + 1)) (some (Ieee.single.word false (rung Ieee.single x + 1))) := fv_rung (by omega)
          have Hf := Lib.hid hf
          have He := Lib.hid e1
          clear hf hn hi hr hs hx e1
          go_enter Try.func52, Try.ntmps52
          go_wp2_with (first | (go_at_call 40; refine (l01Bits_spec _ _ h _).mono ?_; rintro e w' ⟨rfl, n, rfl⟩) | (go_at_call 46; refine (l01From_any _ _).mono ?_; rintro e w' ⟨rfl, m, rfl⟩))
          go_ret
          exact ⟨⟨_, rfl, by rw [Hf.out, He.out]; exact hv⟩, _, rfl⟩
        · have hz := ord_zero_lt h hr hs
          have hf : nextC (some x) = some (Ieee.single.word true (rung Ieee.single x - 1)) := by
            show (if _ then _ else _) = _
            rw [if_neg hn, if_neg hr, if_pos hs]
            show some (x - 1) = some (2147483648 + (rung Ieee.single x - 1))
            rw [show x - 1 = 2147483648 + (rung Ieee.single x - 1) by omega]
          have e1 : (wrap64 (bitsC (some x) - 1) % 4294967296).toNat = Ieee.single.word true (rung Ieee.single x - 1) := by
            show (wrap64 ((x : Int) - 1) % 4294967296).toNat = 2147483648 + (rung Ieee.single x - 1)
            unfold wrap64; omega
          have hv : Fv .f32 (Ieee.single.word true (rung Ieee.single x - 1)) (some (Ieee.single.word true (rung Ieee.single x - 1))) := fv_rung (by omega)
          have Hf := Lib.hid hf
          have He := Lib.hid e1
          clear hf hn hi hr hs hx e1
          go_enter Try.func52, Try.ntmps52
          go_wp2_with (first | (go_at_call 40; refine (l01Bits_spec _ _ h _).mono ?_; rintro e w' ⟨rfl, n, rfl⟩) | (go_at_call 46; refine (l01From_any _ _).mono ?_; rintro e w' ⟨rfl, m, rfl⟩))
          go_ret
          exact ⟨⟨_, rfl, by rw [Hf.out, He.out]; exact hv⟩, _, rfl⟩

theorem gt_max {x : Nat} (h : Fv .f32 x (some x)) : (FloatKind.f32.format.order x 2139095039 == some .gt) = decide (x = 2139095040) := by
  have k : Fv .f32 2139095039 (some 2139095039) := fvc rfl
  have hi : rung Ieee.single x ≤ 2139095040 := (cls_some.1 h.is).1
  have e2 : srung Ieee.single 2139095039 = 2139095039 := by decide +kernel
  rw [order_fv h k]
  show (some (compare (srung Ieee.single x) (srung Ieee.single 2139095039)) == some .gt) = _
  rw [e2, cmp_gt, Bool.eq_iff_iff]
  simp only [decide_eq_true_eq]
  unfold srung pm
  rcases sgn_single h.lt with ⟨hs, hx⟩ | ⟨hs, hx⟩ <;> rw [hs] <;> simp <;> omega

theorem nextUp_impl (x : Nat) (c : Option Nat) (h : Fv .f32 x c) (w : World) :
    Calls Try.prog 35 #[.float .f32 x] w (RetC .f32 (nextC c) w) := by
  have q1 := f32bits
  have q2 := f32from
  cases c with
  | none =>
    have h1 := ord_none h
    go_enter Try.func35, Try.ntmps35
    go_wp2
    go_ret
    exact ⟨⟨_, rfl, h⟩, 0, rfl⟩
  | some b =>
    obtain rfl := (cls_some.1 h.is).2
    have h1 := ord_some h
    have hi : rung Ieee.single x ≤ 2139095040 := (cls_some.1 h.is).1
    by_cases hn : x = 2139095040
    · have hb : (FloatKind.f32.format.order x 2139095039 == some .gt) = true := by rw [gt_max h]; simpa using hn
      have hf : nextC (some x) = some x := if_pos hn
      have Hf := Lib.hid hf
      clear hf hn hi
      go_enter Try.func35, Try.ntmps35
      go_wp2
      go_ret
      exact ⟨⟨_, rfl, by rw [Hf.out]; exact h⟩, 0, rfl⟩
    · have hb : (FloatKind.f32.format.order x 2139095039 == some .gt) = false := by rw [gt_max h]; simpa using hn
      by_cases hr : rung Ieee.single x = 0
      · have hz := ord_zero_eq h hr
        have hf : nextC (some x) = some 1 := by
          show (if _ then _ else _) = _
          rw [if_neg hn, if_pos hr]
        have Hf := Lib.hid hf
        clear hf hn hi hr
        go_enter Try.func35, Try.ntmps35
        go_wp2
        go_ret
        exact ⟨⟨_, rfl, by rw [Hf.out]; exact fvc rfl⟩, 0, rfl⟩
      · rcases sgn_single h.lt with ⟨hs, hx⟩ | ⟨hs, hx⟩
        · have hz := ord_zero_gt h hr hs
          have hf : nextC (some x) = some (Ieee.single.word false (rung Ieee.single x + 1)) := by
            show (if _ then _ else _) = _
            rw [if_neg hn, if_neg hr, if_neg (by rw [hs]; simp)]
            show some (x + 1) = some (rung Ieee.single x + 1)
            rw [← hx]
          have e1 : (IntKind.u32.wrap ((x : Int) + 1)).toNat = Ieee.single.word false (rung Ieee.single x + 1) := by
            show _ = rung Ieee.single x + 1
            rw [IntKind.wrap_u32]; omega
          have hv : Fv .f32 (Ieee.single.word false (rung Ieee.single x + 1)) (some (Ieee.single.word false (rung Ieee.single x + 1))) := fv_rung (by omega)
          have e2 : (x + 1) % 4294967296 = Ieee.single.word false (rung Ieee.single x + 1) := by
            show _ = rung Ieee.single x + 1
            omega
          have Hf := Lib.hid hf
          have He := Lib.hid e2
          clear hf hn hi hr hs hx e1 e2
          go_enter Try.func35, Try.ntmps35
          go_wp2
          go_ret
          refine ⟨⟨_, rfl, ?_⟩, 0, rfl⟩
          rw [Hf.out, He.out]
          exact hv
        · have hz := ord_zero_lt h hr hs
          have hf : nextC (some x) = some (Ieee.single.word true (rung Ieee.single x - 1)) := by
            show (if _ then _ else _) = _
            rw [if_neg hn, if_neg hr, if_pos hs]
            show some (x - 1) = some (2147483648 + (rung Ieee.single x - 1))
            rw [show x - 1 = 2147483648 + (rung Ieee.single x - 1) by omega]
          have e1 : (IntKind.u32.wrap ((x : Int) - 1)).toNat = Ieee.single.word true (rung Ieee.single x - 1) := by
            show _ = 2147483648 + (rung Ieee.single x - 1)
            rw [IntKind.wrap_u32]; omega
          have hv : Fv .f32 (Ieee.single.word true (rung Ieee.single x - 1)) (some (Ieee.single.word true (rung Ieee.single x - 1))) := fv_rung (by omega)
          have Hf := Lib.hid hf
          have He := Lib.hid e1
          clear hf hn hi hr hs hx e1
          go_enter Try.func35, Try.ntmps35
          go_wp2
          go_ret
          refine ⟨⟨_, rfl, ?_⟩, 0, rfl⟩
          rw [Hf.out]
          have He' := He.out
          rw [IntKind.wrap_u32] at He'
          rw [He']; exact hv

theorem nextUp_spec (x : Nat) (c : Option Nat) (h : Fv .f32 x c) (w : World) :
    Calls Try.prog 34 #[.float .f32 x] w (RetC .f32 (nextC c) w) := by
  go_enter Try.func34, Try.ntmps34
  go_wp2_with (go_at_call 52; refine (l01Next_spec _ _ h _).mono ?_; rintro e w' ⟨⟨r, rfl, hr⟩, n, rfl⟩)
  go_ret
  exact ⟨⟨_, rfl, hr⟩, _, rfl⟩

theorem walk_NextUp (a0 : Nat) (h0 : a0 < 2 ^ FloatKind.f32.format.width) (w : World) :
    Calls Try.prog 13 #[.float .f32 a0] w fun e w' => e = .returned (.bool true) ∧ Below w.heap.size w w' := by
  have h := Fv.self h0
  go_enter Try.func13, Try.ntmps13
  go_wp2_with (first
    | ((with_reducible apply upon_float_conv); exact f32some; exact Try.underlying25; assumption; exact fits_widen (by assumption); intro r n hr; (try rw [World.drewN_drewN]); simp only [Act.put, List.setIfInBounds_toArray, List.set_cons_zero, List.set_cons_succ])
    | (go_at_call 34; refine (nextUp_spec _ _ h _).mono ?_; rintro e w' ⟨⟨r, rfl, hr⟩, n, rfl⟩)
    | (go_at_call 35; refine (nextUp_impl _ _ h _).mono ?_; rintro e w' ⟨⟨r, rfl, hr⟩, n, rfl⟩)
    | (go_at_call 19; refine (sameFloat_any _ _ _ (by assumption) (by assumption) _).mono ?_; rintro e w' ⟨rfl, m, rfl⟩))
  go_ret
  exact ⟨rfl, bel_drewN _ _⟩

theorem neg_run (x : Nat) (w : World) : (Op.unary .neg (.float .f32 x)).run Try.prog w = .ok (.float .f32 (Op.negFloat .f32 x)) w := rfl

theorem nextDown_spec (x : Nat) (c : Option Nat) (h : Fv .f32 x c) (w : World) :
    Calls Try.prog 36 #[.float .f32 x] w (RetC .f32 (fneg .f32 (nextC (fneg .f32 c))) w) := by
  have k := h.neg
  have hneg := neg_run
  go_enter Try.func36, Try.ntmps36
  go_wp2_with (go_at_call 52; refine (l01Next_spec _ _ k _).mono ?_; rintro e w' ⟨⟨r, rfl, hr⟩, n, rfl⟩)
  go_ret
  exact ⟨⟨_, rfl, hr.neg⟩, _, rfl⟩

theorem nextDown_impl (x : Nat) (c : Option Nat) (h : Fv .f32 x c) (w : World) :
    Calls Try.prog 37 #[.float .f32 x] w (RetC .f32 (fneg .f32 (nextC (fneg .f32 c))) w) := by
  have k := h.neg
  have hneg := neg_run
  go_enter Try.func37, Try.ntmps37
  go_wp2_with (go_at_call 35; refine (nextUp_impl _ _ k _).mono ?_; rintro e w' ⟨⟨r, rfl, hr⟩, n, rfl⟩)
  go_ret
  exact ⟨⟨_, rfl, hr.neg⟩, _, rfl⟩

theorem walk_NextDown (a0 : Nat) (h0 : a0 < 2 ^ FloatKind.f32.format.width) (w : World) :
    Calls Try.prog 14 #[.float .f32 a0] w fun e w' => e = .returned (.bool true) ∧ Below w.heap.size w w' := by
  have h := Fv.self h0
  go_enter Try.func14, Try.ntmps14
  go_wp2_with (first
    | ((with_reducible apply upon_float_conv); exact f32some; exact Try.underlying25; assumption; exact fits_widen (by assumption); intro r n hr; (try rw [World.drewN_drewN]); simp only [Act.put, List.setIfInBounds_toArray, List.set_cons_zero, List.set_cons_succ])
    | (go_at_call 36; refine (nextDown_spec _ _ h _).mono ?_; rintro e w' ⟨⟨r, rfl, hr⟩, n, rfl⟩)
    | (go_at_call 37; refine (nextDown_impl _ _ h _).mono ?_; rintro e w' ⟨⟨r, rfl, hr⟩, n, rfl⟩)
    | (go_at_call 19; refine (sameFloat_any _ _ _ (by assumption) (by assumption) _).mono ?_; rintro e w' ⟨rfl, m, rfl⟩))
  go_ret
  exact ⟨rfl, bel_drewN _ _⟩

end Go.Proofs.Ytiacekmicahmbaa
