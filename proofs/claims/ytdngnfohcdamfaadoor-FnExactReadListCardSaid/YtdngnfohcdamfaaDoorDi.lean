/-
  ReadDecimal: the reference's side. No condition.
-/
import Derived.Test.YtdngnfohcdamfaaDoorDh
set_option linter.unusedVariables false
namespace Go.Proofs.YtdngnfohcdamfaaDoor
open Go.RowKit Go.Proofs.YtdngnfohcdamfaaDoor.Fl

theorem byte_at {s : ByteArray} {k : Nat} (h : k < s.size) : s.data.toList[k]? = some (s[k]'h) := by
  rw [Array.getElem?_toList]
  exact Array.getElem?_eq_getElem h
theorem size_list (s : ByteArray) : s.data.toList.length = s.size := rfl
theorem val_bound {l : List UInt8} {k : Nat} (hk : k ≤ 16) : val (l.take k) < 10000000000000000 := by
  have h1 := val_lt (l.take k)
  have h2 : (l.take k).length ≤ 16 := by rw [List.length_take]; omega
  have h3 : 10 ^ (l.take k).length ≤ 10 ^ 16 := Nat.pow_le_pow_right (by decide) h2
  omega
theorem stepD_dig {v : Nat} {b : UInt8} (h : 48 ≤ b.toNat ∧ b.toNat ≤ 57) : ((stepD v b : Nat) : Int) = 10 * (v : Int) + ((b.toNat : Int) - 48) := by
  unfold stepD; rw [if_pos h]; omega
theorem stepD_not {v : Nat} {b : UInt8} (h : ¬ (48 ≤ b.toNat ∧ b.toNat ≤ 57)) : stepD v b = v := by
  unfold stepD; rw [if_neg h]

/-! ### the walk -/
theorem head_at {s : ByteArray} (h : 0 < s.size) : s.data.toList.head? = some (s[0]'h) := by
  rw [List.head?_eq_getElem?]; exact byte_at h
set_option maxHeartbeats 4000000 in
theorem c_l01Value {w : World} {s : ByteArray} (hs : s.size ≤ 1048576) :
    Calls Tryd.prog 25 #[.string s] w (RetD (resD s) w) := by
  by_cases hlen : 1 ≤ s.size ∧ s.size ≤ 17
  · obtain ⟨hl1, hl2⟩ := hlen
    go_enter Tryd.func25, Tryd.ntmps25
    go_wp2_with fail
    go_loopw [4, 5] (fun v i wr => ∃ (k V : Nat), k ≤ s.size ∧ i = .int .i64 k ∧ v = .int .i64 V ∧ Hid (V = val (s.data.toList.take k)) ∧ Below w.heap.size w wr) (fun _ i _ => s.size - (intOf i).toNat)
    case atStart => exact ⟨0, 0, Nat.zero_le _, rfl, rfl, rfl, Below.refl _ _⟩
    case round =>
      obtain ⟨k, V, hk, rfl, rfl, hV, hbw⟩ := hrel
      by_cases hlt : k < s.size
      · have hVb : V < 10000000000000000 := by rw [hV.out]; exact val_bound (by omega)
        have hst := val_take (byte_at hlt)
        obtain ⟨b, hbk⟩ : ∃ b, s[k]'hlt = b := ⟨_, rfl⟩
        rw [hbk] at hst
        have hbt : b.toNat < 256 := b.toNat_lt
        have HS := Lib.hid hst
        clear hst
        by_cases hd1 : 48 ≤ b.toNat
        · by_cases hd2 : b.toNat ≤ 57
          · go_wp2_with fail
            go_roundw
            case rel => exact ⟨k + 1, stepD V b, by omega, by go_num, by rw [stepD_dig ⟨hd1, hd2⟩], by show stepD V b = _; rw [HS.out, ← hV.out], hbw⟩
            case measure => simp [intOf]; omega
          · go_wp2_with fail
            go_roundw
            case rel => exact ⟨k + 1, V, by omega, by go_num, rfl, by show V = _; rw [HS.out, ← hV.out, stepD_not (fun c => hd2 c.2)], hbw⟩
            case measure => simp [intOf]; omega
        · go_wp2_with fail
          go_roundw
          case rel => exact ⟨k + 1, V, by omega, by go_num, rfl, by show V = _; rw [HS.out, ← hV.out, stepD_not (fun c => hd1 c.1)], hbw⟩
          case measure => simp [intOf]; omega
      · obtain rfl : k = s.size := by omega
        have hVl : V = val s.data.toList := by
          have := hV.out
          rwa [List.take_of_length_le (by rw [size_list]; exact Nat.le_refl _)] at this
        have hVb : V < 100000000000000000 := by
          have h1 := val_lt s.data.toList
          have h3 : 10 ^ s.data.toList.length ≤ 10 ^ 17 := Nat.pow_le_pow_right (by decide) (by rw [size_list]; exact hl2)
          rw [hVl]; omega
        have hh := head_at (s := s) (by omega)
        obtain ⟨b, hb0⟩ : ∃ b, s[0]'(by omega) = b := ⟨_, rfl⟩
        rw [hb0] at hh
        have HH := Lib.hid (And.intro hVl hh)
        clear hVl hh hV
        by_cases h45 : b.toNat = 45
        · have hsv : sv s.data.toList = -(V : Int) := by rw [sv, HH.out.2, if_pos (congrArg some (UInt8.toNat_inj.1 h45)), ← HH.out.1]
          have HSV := Lib.hid hsv
          have c1 : ∀ w, Calls Tryd.prog 19 #[.int .i64 (-(V : Int))] w fun e w' => e = .returned (.string (dec (-(V : Int)))) ∧ Below w.heap.size w w' := fun w => c_spec_l01Dec (by omega) (by omega) w
          clear hsv
          cases hin : inV (-(V : Int)) with
          | false =>
            have HI := Lib.hid hin
            clear hin c1
            go_wp2_with (go_at_call 30; refine (c_l00In HI.out _).mono ?_; rintro e w' ⟨rfl, rfl⟩)
            go_ret2
            exact ⟨ret_ib (resD_no (fun m k1 k2 => by have e1 := sv_dec k2; rw [HSV.out] at e1; rw [← e1] at k1; exact absurd (k1.symm.trans HI.out) (by decide))).symm, hbw⟩
          | true =>
            have HI := Lib.hid hin
            clear hin
            have c2 := c1 wr
            clear c1
            by_cases hd : dec (-(V : Int)) = s
            · have HD := Lib.hid hd
              rw [hd] at c2
              clear hd
              go_wp2_with (first | (go_at_call 30; refine (c_l00In HI.out _).mono ?_; rintro e w' ⟨rfl, rfl⟩) | (go_at_call 19; refine c2.mono ?_; rintro e w2 ⟨rfl, hb2⟩))
              go_ret2
              exact ⟨ret_ib (resD_is HI.out HD.out).symm, hbw.trans (hb2.mono hbw.size)⟩
            · have hne := toList_ne hd
              have HD := Lib.hid hd
              clear hd
              obtain ⟨t, htd⟩ : ∃ t, t = dec (-(V : Int)) := ⟨_, rfl⟩
              rw [← htd] at hne c2
              clear htd
              go_wp2_with (first | (go_at_call 30; refine (c_l00In HI.out _).mono ?_; rintro e w' ⟨rfl, rfl⟩) | (go_at_call 19; refine c2.mono ?_; rintro e w2 ⟨rfl, hb2⟩))
              go_ret2
              exact ⟨ret_ib (resD_no (fun m k1 k2 => by have e1 := sv_dec k2; rw [HSV.out] at e1; exact HD.out (by rw [e1]; exact k2))).symm, hbw.trans (hb2.mono hbw.size)⟩
        · have hsv : sv s.data.toList = (V : Int) := by rw [sv, HH.out.2, if_neg (fun c => h45 (congrArg UInt8.toNat (Option.some.inj c))), ← HH.out.1]
          have HSV := Lib.hid hsv
          have c1 : ∀ w, Calls Tryd.prog 19 #[.int .i64 ((V : Int))] w fun e w' => e = .returned (.string (dec ((V : Int)))) ∧ Below w.heap.size w w' := fun w => c_spec_l01Dec (by omega) (by omega) w
          clear hsv
          cases hin : inV ((V : Int)) with
          | false =>
            have HI := Lib.hid hin
            clear hin c1
            go_wp2_with (go_at_call 30; refine (c_l00In HI.out _).mono ?_; rintro e w' ⟨rfl, rfl⟩)
            go_ret2
            exact ⟨ret_ib (resD_no (fun m k1 k2 => by have e1 := sv_dec k2; rw [HSV.out] at e1; rw [← e1] at k1; exact absurd (k1.symm.trans HI.out) (by decide))).symm, hbw⟩
          | true =>
            have HI := Lib.hid hin
            clear hin
            have c2 := c1 wr
            clear c1
            by_cases hd : dec ((V : Int)) = s
            · have HD := Lib.hid hd
              rw [hd] at c2
              clear hd
              go_wp2_with (first | (go_at_call 30; refine (c_l00In HI.out _).mono ?_; rintro e w' ⟨rfl, rfl⟩) | (go_at_call 19; refine c2.mono ?_; rintro e w2 ⟨rfl, hb2⟩))
              go_ret2
              exact ⟨ret_ib (resD_is HI.out HD.out).symm, hbw.trans (hb2.mono hbw.size)⟩
            · have hne := toList_ne hd
              have HD := Lib.hid hd
              clear hd
              obtain ⟨t, htd⟩ : ∃ t, t = dec ((V : Int)) := ⟨_, rfl⟩
              rw [← htd] at hne c2
              clear htd
              go_wp2_with (first | (go_at_call 30; refine (c_l00In HI.out _).mono ?_; rintro e w' ⟨rfl, rfl⟩) | (go_at_call 19; refine c2.mono ?_; rintro e w2 ⟨rfl, hb2⟩))
              go_ret2
              exact ⟨ret_ib (resD_no (fun m k1 k2 => by have e1 := sv_dec k2; rw [HSV.out] at e1; exact HD.out (by rw [e1]; exact k2))).symm, hbw.trans (hb2.mono hbw.size)⟩
  · have hlen2 : (s.size : Int) < 1 ∨ 17 < (s.size : Int) := by omega
    have HL := Lib.hid hlen
    clear hlen
    have hr : resD s = (0, false) := resD_no (fun n h1 h2 => HL.out (by subst h2; exact dec_len h1))
    have HR := Lib.hid hr
    clear hr
    rcases hlen2 with h | h
    · go_enter Tryd.func25, Tryd.ntmps25
      go_wp2_with fail
      go_ret2
      exact ⟨ret_ib HR.out.symm, Below.refl _ _⟩
    · go_enter Tryd.func25, Tryd.ntmps25
      go_wp2_with fail
      go_ret2
      exact ⟨ret_ib HR.out.symm, Below.refl _ _⟩

end Go.Proofs.YtdngnfohcdamfaaDoor
