/-
  ReadDecimal: the program's side. No condition but the tables'.
-/
import Derived.Test.YtdngnfohcdamfaaDoorDg
import Derived.Laws.Strings
import Derived.Lib.AtoiErrMem
import Derived.Lib.ParseIntBTie
set_option linter.unusedVariables false
namespace Go.Proofs.YtdngnfohcdamfaaDoor
open Go.RowKit Go.Proofs.YtdngnfohcdamfaaDoor.Fl

/-- The library's two errors. -/
structure Errs (w : World) : Prop where
  syn : ∃ tp p, w.var? Tryd.prog "strconv.ErrSyntax" = some #[.iface tp p]
  rng : ∃ tp p, w.var? Tryd.prog "strconv.ErrRange" = some #[.iface tp p]
theorem gSyn : Tryd.prog.globalNamed "strconv.ErrSyntax" = some 1 := by kernel_rfl
theorem gRng : Tryd.prog.globalNamed "strconv.ErrRange" = some 2 := by kernel_rfl
theorem Errs.on {B : Nat} {w w' : World} (h : Errs w) (hb : Below B w w') (hB : w.heap.size ≤ B) : Errs w' :=
  ⟨by obtain ⟨t, p, e⟩ := h.syn; exact ⟨t, p, Go.Joins.var_stays gSyn e hb hB⟩, by obtain ⟨t, p, e⟩ := h.rng; exact ⟨t, p, Go.Joins.var_stays gRng e hb hB⟩⟩

theorem numEnd_cases (x : Lib.NumEnd Int) : (∃ n, x = .ok n) ∨ x = Lib.NumEnd.syntax ∨ x = Lib.NumEnd.range := by cases x <;> simp
theorem toList_ne {a b : ByteArray} (h : a ≠ b) : (a.toList == b.toList) = false := by
  rw [beq_eq_false_iff_ne]
  intro e
  apply h
  rw [Go.ByteArray.toList_eq, Go.ByteArray.toList_eq] at e
  exact ByteArray.ext (Array.toList_inj.1 e)

/-- What the text reads as comes back. -/
abbrev RetD (r : Int × Bool) (w : World) (e : Ending) (w' : World) : Prop := e = .returned (.tuple #[.int .i64 r.1, .bool r.2]) ∧ Below w.heap.size w w'
theorem ret_ib {a b : Int} {c d : Bool} (h : (a, c) = (b, d)) : Ending.returned (.tuple #[.int .i64 a, .bool c]) = .returned (.tuple #[.int .i64 b, .bool d]) := by
  obtain ⟨rfl, rfl⟩ := Prod.mk.inj h; rfl

set_option maxHeartbeats 1000000 in
theorem c_impl_ReadDecimal {w : World} {s : ByteArray} (hs : s.size ≤ 1048576) (ht : Tab w) (he : Errs w) :
    Calls Tryd.prog 14 #[.string s] w (RetD (resD s) w) := by
  rcases numEnd_cases (Lib.parseIntB 64 s.data.toList) with ⟨n, hp⟩ | hp | hp
  · have c := Tryd.strconv_ParseInt_10_at64_ok s (by omega) n hp w
    have hbnd := Lib.parseIntB_bounds hp
    have h0 : -9223372036854775808 ≤ n := by have := hbnd.1; omega
    have h1 : n ≤ 9223372036854775807 := by have := hbnd.2; omega
    have hno : ∀ m, inV m = true → dec m = s → m = n := fun m h1 h2 => by
      have := parse_itoa h1
      subst h2
      rw [show (dec m).data.toList = Lib.itoa m from rfl, this] at hp
      exact Lib.NumEnd.ok.inj hp
    have HP := Lib.hid (And.intro hno (And.intro ht he))
    clear hbnd hno ht he hp
    cases hin : inV n with
    | false =>
      have HI := Lib.hid hin
      clear hin
      go_enter Tryd.func14, Tryd.ntmps14
      go_wp2_with fail
      refine c.mono ?_
      rintro e w1 ⟨rfl, hw1⟩
      have hb1 : Below w.heap.size w w1 := by
        rcases hw1 with rfl | ⟨t, rfl⟩
        · exact Below.refl _ _
        · exact Lib.bytesWorld_below _ _ _
      clear hw1
      go_wp2_with (go_at_call 23; refine (c_isValue HI.out _).mono ?_; rintro e w' ⟨rfl, rfl⟩)
      go_ret2
      exact ⟨ret_ib (resD_no (fun m k1 k2 => by have := HP.out.1 m k1 k2; subst this; exact absurd (k1.symm.trans HI.out) (by decide))).symm, hb1⟩
    | true =>
      have HI := Lib.hid hin
      clear hin
      by_cases hd : dec n = s
      · have HD := Lib.hid hd
        clear hd
        go_enter Tryd.func14, Tryd.ntmps14
        go_wp2_with fail
        refine c.mono ?_
        rintro e w1 ⟨rfl, hw1⟩
        have hb1 : Below w.heap.size w w1 := by
          rcases hw1 with rfl | ⟨t, rfl⟩
          · exact Below.refl _ _
          · exact Lib.bytesWorld_below _ _ _
        clear hw1
        have c2 := c_impl_Decimal h0 h1 w1 (HP.out.2.1.on hb1 (Nat.le_refl _))
        rw [HD.out] at c2
        go_wp2_with (first | (go_at_call 23; refine (c_isValue HI.out _).mono ?_; rintro e w' ⟨rfl, rfl⟩) | (go_at_call 8; refine c2.mono ?_; rintro e w2 ⟨rfl, hb2⟩))
        go_ret2
        exact ⟨ret_ib (resD_is HI.out HD.out).symm, hb1.trans (hb2.mono hb1.size)⟩
      · have hne := toList_ne hd
        have HD := Lib.hid hd
        clear hd
        have c3 : ∀ w1, Tab w1 → Calls Tryd.prog 8 #[.int .i64 n] w1 fun e w' => e = .returned (.string (dec n)) ∧ Below w1.heap.size w1 w' := fun w1 h => c_impl_Decimal h0 h1 w1 h
        obtain ⟨t, htd⟩ : ∃ t, t = dec n := ⟨_, rfl⟩
        rw [← htd] at hne c3
        have HT := Lib.hid htd
        clear htd
        go_enter Tryd.func14, Tryd.ntmps14
        go_wp2_with fail
        refine c.mono ?_
        rintro e w1 ⟨rfl, hw1⟩
        have hb1 : Below w.heap.size w w1 := by
          rcases hw1 with rfl | ⟨t, rfl⟩
          · exact Below.refl _ _
          · exact Lib.bytesWorld_below _ _ _
        clear hw1
        have c2 := c3 w1 (HP.out.2.1.on hb1 (Nat.le_refl _))
        clear c3
        go_wp2_with (first | (go_at_call 23; refine (c_isValue HI.out _).mono ?_; rintro e w' ⟨rfl, rfl⟩) | (go_at_call 8; refine c2.mono ?_; rintro e w2 ⟨rfl, hb2⟩))
        go_ret2
        exact ⟨ret_ib (resD_no (fun m k1 k2 => by have := HP.out.1 m k1 k2; subst this; exact HD.out k2)).symm, hb1.trans (hb2.mono hb1.size)⟩
  · obtain ⟨tp, p, hvar⟩ := he.syn
    have c := Tryd.strconv_ParseInt_10_at64_syntax_var s (by omega) hp tp p w hvar
    have HP := Lib.hid hp
    clear hp hvar ht he
    go_enter Tryd.func14, Tryd.ntmps14
    go_wp2_with fail
    refine c.mono ?_
    rintro e w1 ⟨N, rfl, _, _, hb1⟩
    go_wp2_with fail
    go_ret2
    exact ⟨ret_ib (resD_no (fun m k1 k2 => by
      have := parse_itoa k1
      subst k2
      exact absurd (this.symm.trans HP.out) (by intro c; cases c))).symm, hb1⟩
  · obtain ⟨tp, p, hvar⟩ := he.rng
    have c := Tryd.strconv_ParseInt_10_at64_range_var s (by omega) hp tp p w hvar
    have HP := Lib.hid hp
    clear hp hvar ht he
    go_enter Tryd.func14, Tryd.ntmps14
    go_wp2_with fail
    refine c.mono ?_
    rintro e w1 ⟨N, rfl, _, _, hb1⟩
    go_wp2_with fail
    go_ret2
    exact ⟨ret_ib (resD_no (fun m k1 k2 => by
      have := parse_itoa k1
      subst k2
      exact absurd (this.symm.trans HP.out) (by intro c; cases c))).symm, hb1⟩

end Go.Proofs.YtdngnfohcdamfaaDoor
