/-
  Decimal: both sides give the numeral. The library's FormatInt base 10 by the shelf's contract (the table as the condition says).
-/
import Derived.Test.YtdngnfohcdamfaaDoorSh
import Derived.Test.YtdngnfohcdamfaaDoorDa
import Derived.Lib.SmallJoins
import Derived.Lib.AppendIntMem
set_option linter.unusedVariables false
namespace Go.Proofs.YtdngnfohcdamfaaDoor
open Go.RowKit

/-- The table of powers of ten reads as it does. -/
abbrev Tab (w : World) : Prop := Lib.TabIs Tryd.prog w "internal/strconv.uint64pow10" .u64 Lib.pow10Tab
theorem Tab.on {B : Nat} {w w' : World} (h : Tab w) (hb : Below B w w') (hB : w.heap.size ≤ B) : Tab w' :=
  (Lib.tabBelow_of_tabIs h) w' (hb.mono hB)

abbrev dec (n : Int) : ByteArray := ⟨(Lib.itoa n).toArray⟩

theorem c_spec_Decimal {n : Int} (h0 : -9223372036854775808 ≤ n) (h1 : n ≤ 9223372036854775807) (w : World) :
    Calls Tryd.prog 7 #[.int .i64 n] w fun e w' => e = .returned (.string (dec n)) ∧ Below w.heap.size w w' := by
  go_enter Tryd.func7, Tryd.ntmps7
  go_wp2_with (go_at_call 19; refine (c_spec_l01Dec h0 h1 _).mono ?_; rintro e w' ⟨rfl, hb⟩)
  go_ret
  exact ⟨rfl, by assumption⟩

theorem c_impl_Decimal {n : Int} (h0 : -9223372036854775808 ≤ n) (h1 : n ≤ 9223372036854775807) (w : World) (ht : Tab w) :
    Calls Tryd.prog 8 #[.int .i64 n] w fun e w' => e = .returned (.string (dec n)) ∧ Below w.heap.size w w' := by
  go_enter Tryd.func8, Tryd.ntmps8
  go_wp2_with (go_at_call 20; refine (Tryd.strconv_FormatInt_10 n h0 h1 w ht).mono ?_; rintro e w' ⟨rfl, k, os, rfl⟩)
  go_ret
  exact ⟨rfl, Lib.below_grow _ _ (Nat.le_refl _) _ _⟩

theorem wf_i64 {n : Int} (hw : (Lit.int .i64 n).wf = true) : -9223372036854775808 ≤ n ∧ n ≤ 9223372036854775807 := by
  have hm : IntKind.i64.min = -9223372036854775808 := by decide
  have hM : IntKind.i64.max = 9223372036854775807 := by decide
  simp only [Lit.wf, Bool.and_eq_true, decide_eq_true_eq, hm, hM] at hw
  exact hw

set_option maxHeartbeats 1000000 in
theorem walk_Decimal (n : Int) (hw : (Lit.int .i64 n).wf = true) (w : World) (ht : Tab w) :
    Calls Tryd.prog 3 #[.int .i64 n] w fun e w' => e = .returned (.bool true) ∧ Below w.heap.size w w' := by
  have hr : -9223372036854775808 ≤ n ∧ n ≤ 9223372036854775807 := wf_i64 hw
  obtain ⟨h0, h1⟩ := hr
  have c1 : ∀ w, Calls Tryd.prog 7 #[.int .i64 n] w fun e w' => e = .returned (.string (dec n)) ∧ Below w.heap.size w w' := fun w => c_spec_Decimal h0 h1 w
  have c2 : ∀ w', Below w.heap.size w w' → Calls Tryd.prog 8 #[.int .i64 n] w' fun e w'' => e = .returned (.string (dec n)) ∧ Below w.heap.size w w'' := fun w' hb =>
    (c_impl_Decimal h0 h1 w' (ht.on hb (Nat.le_refl _))).mono fun e w'' h => ⟨h.1, hb.trans (h.2.mono hb.size)⟩
  clear ht hw
  generalize dec n = s at c1 c2
  go_enter Tryd.func3, Tryd.ntmps3
  go_wp2_with (first | (go_at_call 7; refine (c1 _).mono ?_; rintro e w1 ⟨rfl, hb1⟩) | (go_at_call 8; refine (c2 _ (by assumption)).mono ?_; rintro e w2 ⟨rfl, hb2⟩))
  go_ret
  exact ⟨rfl, by assumption⟩

end Go.Proofs.YtdngnfohcdamfaaDoor
