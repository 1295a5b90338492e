/-
  The check number of a text, and names. No condition but that a text is no longer than Go allows.
-/
import Derived.Test.YtiacekmicahmbaaWa
import Derived.Lib.Hide
set_option linter.unusedVariables false
namespace Go.Proofs.Ytiacekmicahmbaa
open Go.RowKit Go.Proofs.Ytiacekmicahmbaa.Fl

theorem take_snoc (s : ByteArray) (k : Nat) (h : k < s.size) : s.data.toList.take (k + 1) = s.data.toList.take k ++ [s[k]] := by
  rw [List.take_succ_eq_append_getElem (by simpa using h)]; rfl

/-- The check number. -/
def chk (n : Int) (l : List UInt8) : Int := l.foldl (fun n c => (613 * n + (c.toNat : Int) + 23) % 65003) n

theorem chk_snoc (n : Int) (l : List UInt8) (c : UInt8) : chk n (l ++ [c]) = (613 * chk n l + (c.toNat : Int) + 23) % 65003 := by
  unfold chk; rw [List.foldl_append]; rfl

theorem chk_bd (l : List UInt8) : ∀ n : Int, 0 ≤ n → n < 65003 → 0 ≤ chk n l ∧ chk n l < 65003 := by
  induction l with
  | nil => exact fun n h0 h1 => ⟨h0, h1⟩
  | cons c l ih => exact fun n h0 h1 => ih ((613 * n + (c.toNat : Int) + 23) % 65003) (by omega) (by omega)

theorem check_spec (n : Int) (s : ByteArray) (w : World) (hs : s.size ≤ maxLen) (h0 : 0 ≤ n) (h1 : n < 65003) :
    Calls Try.prog 48 #[.int .i64 n, .string s] w fun e w' => e = .returned (.int .i64 (chk n s.data.toList)) ∧ w = w' := by
  unfold maxLen at hs
  go_enter Try.func48, Try.ntmps48
  go_wp2
  go_loop [0, 5] (fun m i => ∃ k : Nat, k ≤ s.size ∧ i = .int .i64 k ∧ m = .int .i64 (chk n (s.data.toList.take k))) (fun _ i => s.size - (intOf i).toNat)
  case atStart => exact ⟨0, Nat.zero_le _, rfl, rfl⟩
  case round =>
    obtain ⟨k, hk, rfl, rfl⟩ := hrel
    obtain ⟨hd0, hd1⟩ := chk_bd (s.data.toList.take k) n h0 h1
    by_cases hlt : k < s.size
    · have hsn := chk_snoc n (s.data.toList.take k) s[k]
      rw [← take_snoc s k hlt] at hsn
      have HS := Lib.hid hsn
      clear hsn
      generalize chk n (s.data.toList.take k) = q at *
      have hb : (s[k].toNat : Int) < 256 := by have := s[k].toNat_lt; omega
      go_wp2
      all_goals
        go_round
        case rel => exact ⟨k + 1, by omega, by go_num, by rw [HS.out]⟩
        case measure => simp [intOf]; omega
    · go_wp2
      go_ret
      exact ⟨ret_int (by rw [List.take_of_length_le (by simp; omega)]), rfl⟩

theorem check_impl (n : Int) (s : ByteArray) (w : World) (hs : s.size ≤ maxLen) (h0 : 0 ≤ n) (h1 : n < 65003) :
    Calls Try.prog 49 #[.int .i64 n, .string s] w fun e w' => e = .returned (.int .i64 (chk n s.data.toList)) ∧ w = w' := by
  unfold maxLen at hs
  go_enter Try.func49, Try.ntmps49
  go_wp2
  go_loop [0, 8] (fun m i => ∃ k : Nat, k ≤ s.size ∧ i = .int .i64 k ∧ m = .int .i64 (chk n (s.data.toList.take k))) (fun _ i => s.size - (intOf i).toNat)
  case atStart => exact ⟨0, Nat.zero_le _, rfl, rfl⟩
  case round =>
    obtain ⟨k, hk, rfl, rfl⟩ := hrel
    obtain ⟨hd0, hd1⟩ := chk_bd (s.data.toList.take k) n h0 h1
    by_cases hlt : k < s.size
    · have hsn := chk_snoc n (s.data.toList.take k) s[k]
      rw [← take_snoc s k hlt] at hsn
      have HS := Lib.hid hsn
      clear hsn
      generalize chk n (s.data.toList.take k) = q at *
      have hb : (s[k].toNat : Int) < 256 := by have := s[k].toNat_lt; omega
      go_wp2
      all_goals
        go_round
        case rel => exact ⟨k + 1, by omega, by go_num, by rw [HS.out]⟩
        case measure => simp [intOf]; omega
    · go_wp2
      go_ret
      exact ⟨ret_int (by rw [List.take_of_length_le (by simp; omega)]), rfl⟩

theorem checkOf_in (n : Int) (s : ByteArray) (w : World) (hs : s.size ≤ maxLen) (h0 : 0 ≤ n) (h1 : n < 65003) :
    Calls Try.prog 31 #[.int .i64 n, .string s] w fun e w' => e = .returned (.tuple #[.int .i64 (chk n s.data.toList), .bool true]) ∧ w = w' := by
  have a1 : decide (n < 0) = false := by simpa using h0
  have a2 : decide (65003 ≤ n) = false := by simp; omega
  have HS := Lib.hid hs
  clear hs
  go_enter Try.func31, Try.ntmps31
  go_wp2_with (go_at_call 49; refine (check_impl _ _ _ HS.out h0 h1).mono ?_; rintro e w' ⟨rfl, rfl⟩)
  go_ret2
  exact ⟨rfl, rfl⟩

theorem checkOf_out (n : Int) (s : ByteArray) (w : World) (h : n < 0 ∨ 65003 ≤ n) :
    Calls Try.prog 31 #[.int .i64 n, .string s] w fun e w' => e = .returned (.tuple #[.int .i64 0, .bool false]) ∧ w = w' := by
  by_cases h0 : n < 0
  · have a1 : decide (n < 0) = true := by simpa using h0
    clear h
    go_enter Try.func31, Try.ntmps31
    go_wp2
    go_ret2
    exact ⟨rfl, rfl⟩
  · have a1 : decide (n < 0) = false := by simpa using h0
    have a2 : decide (65003 ≤ n) = true := by simp; omega
    clear h
    go_enter Try.func31, Try.ntmps31
    go_wp2
    go_ret2
    exact ⟨rfl, rfl⟩

theorem l00In_all (n a b : Int) (w : World) :
    Calls Try.prog 45 #[.int .i64 n, .int .i64 a, .int .i64 b] w fun e w' => e = .returned (.bool (decide (a ≤ n) && decide (n ≤ b))) ∧ w = w' := by
  by_cases h : a ≤ n
  · have h' : decide (a ≤ n) = true := by simpa using h
    go_enter Try.func45, Try.ntmps45
    go_wp2
    go_ret
    exact ⟨ret_bool (by rw [h']; rfl), rfl⟩
  · have h' : decide (a ≤ n) = false := by simpa using h
    go_enter Try.func45, Try.ntmps45
    go_wp2
    go_ret
    exact ⟨ret_bool (by simp), rfl⟩

theorem checkOf_spec_in (n : Int) (s : ByteArray) (w : World) (hs : s.size ≤ maxLen) (h0 : 0 ≤ n) (h1 : n < 65003) :
    Calls Try.prog 30 #[.int .i64 n, .string s] w fun e w' => e = .returned (.tuple #[.int .i64 (chk n s.data.toList), .bool true]) ∧ w = w' := by
  have hb : decide (n ≤ 65002) = true := by simp; omega
  have HS := Lib.hid hs
  clear hs
  go_enter Try.func30, Try.ntmps30
  go_wp2_with (first | (go_at_call 45; refine (l00In_all _ _ _ _).mono ?_; rintro e w' ⟨rfl, rfl⟩) | (go_at_call 48; refine (check_spec _ _ _ HS.out h0 h1).mono ?_; rintro e w' ⟨rfl, rfl⟩))
  go_ret2
  exact ⟨rfl, rfl⟩

theorem checkOf_spec_out (n : Int) (s : ByteArray) (w : World) (h : n < 0 ∨ 65003 ≤ n) :
    Calls Try.prog 30 #[.int .i64 n, .string s] w fun e w' => e = .returned (.tuple #[.int .i64 0, .bool false]) ∧ w = w' := by
  have hb : (decide (0 ≤ n) && decide (n ≤ 65002)) = false := by simp; omega
  clear h
  go_enter Try.func30, Try.ntmps30
  go_wp2_with (go_at_call 45; refine (l00In_all _ _ _ _).mono ?_; rintro e w' ⟨rfl, rfl⟩)
  go_ret2
  exact ⟨rfl, rfl⟩

theorem walk_CheckOf (a0 : Int) (_ : (Lit.int .i64 a0).wf = true) (a1 : ByteArray) (h1 : a1.size ≤ maxLen) (w : World) :
    Calls Try.prog 11 #[.int .i64 a0, .string a1] w fun e w' => e = .returned (.bool true) ∧ Below w.heap.size w w' := by
  have hlong : 1048576 < a1.size ∨ a1.size ≤ 1048576 := by omega
  have HS := Lib.hid h1
  clear h1
  rcases hlong with hl | hl
  · go_enter Try.func11, Try.ntmps11
    go_wp2
    go_ret
    exact ⟨rfl, Below.refl _ _⟩
  · by_cases hin : 0 ≤ a0 ∧ a0 < 65003
    · have HI := Lib.hid hin
      clear hin
      go_enter Try.func11, Try.ntmps11
      go_wp2_with (first | (go_at_call 30; refine (checkOf_spec_in _ _ _ HS.out HI.out.1 HI.out.2).mono ?_; rintro e w' ⟨rfl, rfl⟩) | (go_at_call 31; refine (checkOf_in _ _ _ HS.out HI.out.1 HI.out.2).mono ?_; rintro e w' ⟨rfl, rfl⟩))
      go_ret
      exact ⟨rfl, Below.refl _ _⟩
    · have HI : RowKit.Hid (a0 < 0 ∨ 65003 ≤ a0) := Lib.hid (by omega)
      clear hin
      go_enter Try.func11, Try.ntmps11
      go_wp2_with (first | (go_at_call 30; refine (checkOf_spec_out _ _ _ HI.out).mono ?_; rintro e w' ⟨rfl, rfl⟩) | (go_at_call 31; refine (checkOf_out _ _ _ HI.out).mono ?_; rintro e w' ⟨rfl, rfl⟩))
      go_ret
      exact ⟨rfl, Below.refl _ _⟩

/-! ### names -/
theorem empty_size (s : ByteArray) : s.toList.isEmpty = decide (s.size = 0) := by
  rw [ByteArray.toList_eq, Bool.eq_iff_iff, List.isEmpty_iff, decide_eq_true_iff]
  show _ ↔ s.data.size = 0
  rw [← Array.length_toList, List.length_eq_zero_iff]

/-- The first k bytes are letters. -/
def AllOk (s : ByteArray) (k : Nat) : Prop := ∀ j, (h : j < s.size) → j < k → 97 ≤ s[j].toNat ∧ s[j].toNat ≤ 122

theorem allOk_succ (s : ByteArray) (k : Nat) (hk : k < s.size) (h : AllOk s k) (h1 : 97 ≤ s[k].toNat) (h2 : s[k].toNat ≤ 122) : AllOk s (k + 1) := by
  intro j hj hlt
  by_cases e : j = k
  · subst e; exact ⟨h1, h2⟩
  · exact h j hj (by omega)

/-- Whether a text is a name. -/
noncomputable def nameB (s : ByteArray) : Bool := (@decide (AllOk s s.size) (Classical.propDecidable _)) && (decide (1 ≤ s.size) && decide (s.size ≤ 8))

theorem nameB_bad (s : ByteArray) (k : Nat) (hk : k < s.size) (h : s[k].toNat < 97 ∨ 122 < s[k].toNat) : nameB s = false := by
  unfold nameB
  have : ¬ AllOk s s.size := fun ha => by have := ha k hk hk; omega
  simp [this]

theorem nameB_end (s : ByteArray) (h : AllOk s s.size) : nameB s = (decide (1 ≤ s.size) && decide (s.size ≤ 8)) := by
  unfold nameB
  simp [h]

theorem isName_spec (s : ByteArray) (w : World) (hs : s.size ≤ maxLen) :
    Calls Try.prog 24 #[.string s] w fun e w' => e = .returned (.bool (nameB s)) ∧ w = w' := by
  unfold maxLen at hs
  go_enter Try.func24, Try.ntmps24
  go_wp2
  go_loop [3] (fun i => ∃ k : Nat, k ≤ s.size ∧ i = .int .i64 k ∧ AllOk s k) (fun i => s.size - (intOf i).toNat)
  case atStart => exact ⟨0, Nat.zero_le _, rfl, fun j _ h => absurd h (Nat.not_lt_zero j)⟩
  case round =>
    obtain ⟨k, hk, rfl, hok⟩ := hrel
    have HO := Lib.hid hok
    clear hok
    by_cases hlt : k < s.size
    · have hb : (s[k].toNat : Int) < 256 := by have := s[k].toNat_lt; omega
      by_cases c1 : (s[k].toNat : Int) < 97
      · have d1 : decide ((s[k].toNat : Int) < 97) = true := by simpa using c1
        have hf := nameB_bad s k hlt (by omega)
        have HF := Lib.hid hf
        clear hf
        go_wp2
        all_goals
          go_ret
          exact ⟨ret_bool HF.out.symm, rfl⟩
      · have d1 : decide ((s[k].toNat : Int) < 97) = false := by simpa using c1
        by_cases c2 : 122 < (s[k].toNat : Int)
        · have d2 : decide (122 < (s[k].toNat : Int)) = true := by simpa using c2
          have hf := nameB_bad s k hlt (by omega)
          have HF := Lib.hid hf
          clear hf
          go_wp2
          all_goals
            go_ret
            exact ⟨ret_bool HF.out.symm, rfl⟩
        · have d2 : decide (122 < (s[k].toNat : Int)) = false := by simpa using c2
          have HF := Lib.hid (allOk_succ s k hlt HO.out (by omega) (by omega))
          go_wp2
          all_goals
            go_round
            case rel => exact ⟨k + 1, by omega, by go_num, HF.out⟩
            case measure => simp [intOf]; omega
    · have hke : k = s.size := by omega
      subst hke
      have HF := Lib.hid (nameB_end s HO.out)
      clear HO
      by_cases c1 : s.size = 0
      · have d1 : decide (1 ≤ (s.size : Int)) = false := by simp; omega
        go_wp2
        go_ret
        exact ⟨ret_bool (by rw [HF.out, c1]; rfl), rfl⟩
      · by_cases c2 : s.size ≤ 8
        · have d1 : decide (1 ≤ (s.size : Int)) = true := by simp; omega
          have d2 : decide ((s.size : Int) ≤ 8) = true := by simp; omega
          have d3 : decide (s.size ≤ 8) = true := by simp; omega
          go_wp2
          go_ret
          exact ⟨ret_bool (by rw [HF.out]; symm; simp; omega), rfl⟩
        · have d1 : decide (1 ≤ (s.size : Int)) = true := by simp; omega
          have d2 : decide ((s.size : Int) ≤ 8) = false := by simp; omega
          have d3 : decide (s.size ≤ 8) = false := by simp; omega
          go_wp2
          go_ret
          exact ⟨ret_bool (by rw [HF.out]; symm; simp; omega), rfl⟩

theorem isName_impl (s : ByteArray) (w : World) (hs : s.size ≤ maxLen) :
    Calls Try.prog 25 #[.string s] w fun e w' => e = .returned (.bool (nameB s)) ∧ w = w' := by
  unfold maxLen at hs
  go_enter Try.func25, Try.ntmps25
  go_wp2
  go_loop [6] (fun i => ∃ k : Nat, k ≤ s.size ∧ i = .int .i64 k ∧ AllOk s k) (fun i => s.size - (intOf i).toNat)
  case atStart => exact ⟨0, Nat.zero_le _, rfl, fun j _ h => absurd h (Nat.not_lt_zero j)⟩
  case round =>
    obtain ⟨k, hk, rfl, hok⟩ := hrel
    have HO := Lib.hid hok
    clear hok
    by_cases hlt : k < s.size
    · have hb : (s[k].toNat : Int) < 256 := by have := s[k].toNat_lt; omega
      by_cases c1 : (s[k].toNat : Int) < 97
      · have d1 : decide ((s[k].toNat : Int) < 97) = true := by simpa using c1
        have hf := nameB_bad s k hlt (by omega)
        have HF := Lib.hid hf
        clear hf
        go_wp2
        all_goals
          go_ret
          exact ⟨ret_bool HF.out.symm, rfl⟩
      · have d1 : decide ((s[k].toNat : Int) < 97) = false := by simpa using c1
        by_cases c2 : 122 < (s[k].toNat : Int)
        · have d2 : decide (122 < (s[k].toNat : Int)) = true := by simpa using c2
          have hf := nameB_bad s k hlt (by omega)
          have HF := Lib.hid hf
          clear hf
          go_wp2
          all_goals
            go_ret
            exact ⟨ret_bool HF.out.symm, rfl⟩
        · have d2 : decide (122 < (s[k].toNat : Int)) = false := by simpa using c2
          have HF := Lib.hid (allOk_succ s k hlt HO.out (by omega) (by omega))
          go_wp2
          all_goals
            go_round
            case rel => exact ⟨k + 1, by omega, by go_num, HF.out⟩
            case measure => simp [intOf]; omega
    · have hke : k = s.size := by omega
      subst hke
      have HF := Lib.hid (nameB_end s HO.out)
      clear HO
      by_cases c1 : s.size = 0
      · have d1 : s.toList.isEmpty = true := by rw [empty_size]; simpa using c1
        have d0 : s.toList = [] := by simpa using d1
        go_wp2
        go_ret
        exact ⟨ret_bool (by rw [HF.out, c1]; rfl), rfl⟩
      · by_cases c2 : s.size ≤ 8
        · have d1 : s.toList.isEmpty = false := by rw [empty_size]; simpa using c1
          have d2 : decide ((s.size : Int) ≤ 8) = true := by simp; omega
          have d3 : decide (s.size ≤ 8) = true := by simp; omega
          go_wp2
          go_ret
          exact ⟨ret_bool (by rw [HF.out]; symm; simp; omega), rfl⟩
        · have d1 : s.toList.isEmpty = false := by rw [empty_size]; simpa using c1
          have d2 : decide ((s.size : Int) ≤ 8) = false := by simp; omega
          have d3 : decide (s.size ≤ 8) = false := by simp; omega
          go_wp2
          go_ret
          exact ⟨ret_bool (by rw [HF.out]; symm; simp; omega), rfl⟩

theorem walk_IsName (a0 : ByteArray) (h0 : a0.size ≤ maxLen) (w : World) :
    Calls Try.prog 8 #[.string a0] w fun e w' => e = .returned (.bool true) ∧ Below w.heap.size w w' := by
  have hlong : 1048576 < a0.size ∨ a0.size ≤ 1048576 := by omega
  have HS := Lib.hid h0
  clear h0
  rcases hlong with hl | hl
  · go_enter Try.func8, Try.ntmps8
    go_wp2
    go_ret
    exact ⟨rfl, Below.refl _ _⟩
  · go_enter Try.func8, Try.ntmps8
    go_wp2_with (first | (go_at_call 24; refine (isName_spec _ _ HS.out).mono ?_; rintro e w' ⟨rfl, rfl⟩) | (go_at_call 25; refine (isName_impl _ _ HS.out).mono ?_; rintro e w' ⟨rfl, rfl⟩))
    go_ret
    exact ⟨rfl, Below.refl _ _⟩

end Go.Proofs.Ytiacekmicahmbaa
