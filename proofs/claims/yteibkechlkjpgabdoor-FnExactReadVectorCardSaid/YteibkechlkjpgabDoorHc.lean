/-
  The library's ParseUint at base 16, 32 bits. No condition. (After the kit's own walk at base 10.)
-/
import Derived.Test.YteibkechlkjpgabDoorHb
import Derived.Test.YteibkechlkjpgabDoorSh
import Derived.Lib.Strings
import Derived.Lib.Walk
import Derived.Lib.ConvBytes
import Derived.Lib.ParseIntBMem
import Derived.Laws.Strings3
import Derived.Laws.Closers25
import Derived.Laws.Closers25b
import Derived.BigCall
import Derived.BigGuard
set_option linter.unusedVariables false
namespace Go.Proofs.YteibkechlkjpgabDoor
open Go.RowKit

/-- The byte with the bit 32 set. -/
def lowC (c : UInt8) : Nat := (bits .or .u8 (c.toNat : Int) 32).toNat
/-- A digit's value; 16 for what is none. -/
def hexV (c : UInt8) : Nat := if 48 ≤ c.toNat ∧ c.toNat ≤ 57 then c.toNat - 48 else if 97 ≤ lowC c ∧ lowC c ≤ 102 then lowC c - 87 else 16
def hexP (acc : Nat) : List UInt8 → Lib.NumEnd Nat
  | [] => .ok acc
  | c :: r => if hexV c < 16 then if 4294967295 < acc * 16 + hexV c then .range else hexP (acc * 16 + hexV c) r else Lib.NumEnd.syntax

set_option maxHeartbeats 32000000 in
set_option maxRecDepth 100000 in
theorem c_ParseUint_in (t : ByteArray) (hne : t.size ≠ 0) (hmax : t.size ≤ 9223372036854775806) (w : World) :
    Calls Tryd.prog 27 #[.string t, .int .i64 16, .int .i64 32] w fun e w' => e = .returned (Lib.uintTupleM 59 4294967295 (hexP 0 t.data.toList)) ∧ w' = Lib.bytesWorld w 5 t := by
  have hemp : t.toList.isEmpty = false := by
    rw [← decide_eq_emptyBytes]
    exact decide_eq_false (fun h => hne (by rw [h]; rfl))
  have hcv := Lib.run_convert_string_bytes (P := Tryd.prog) w 9 62 5 t (u := .string) Tryd.underlying9 Tryd.underlying62 Tryd.underlying5
  have hB : ∀ j, j < t.size → (Lib.bytesWorld w 5 t).cell? ⟨w.heap.size, j, none⟩ = some (.int .u8 (t.data.toList.getD j 0).toNat) := fun j hj => Lib.bytesWorld_cell w 5 t j hj
  obtain ⟨W1, hW1⟩ : ∃ W1, W1 = Lib.bytesWorld w 5 t := ⟨_, rfl⟩
  rw [← hW1] at hcv hB ⊢
  clear hW1
  obtain ⟨bs, hL⟩ : ∃ bs, bs = t.data.toList := ⟨_, rfl⟩
  have hLn : bs.length = t.size := by rw [hL, Lib.size_eq]
  rw [← hL] at hB ⊢
  clear hL
  have hmv : IntKind.u64.wrap (IntKind.u64.wrap 4294967296 - 1) = 4294967295 := by
    rw [IntKind.wrap_u64, IntKind.wrap_u64]
    decide
  go_enter Tryd.func27, Tryd.ntmps27
  go_wp2
  go_loop [12, 13, 101] (fun vu vn vi => ∃ (k acc : Nat) (a : Int), vu = .bool false ∧ vn = .int .u64 a ∧ vi = .int .i64 k ∧ k ≤ t.size ∧ Hid (a = (acc : Int) ∧ acc ≤ 4294967295 ∧ hexP 0 bs = hexP acc (bs.drop k)))
    (fun _ _ vi => t.size - (intOf vi).toNat)
  case atStart => exact ⟨0, 0, 0, rfl, rfl, rfl, by omega, rfl, by omega, rfl⟩
  case round =>
    obtain ⟨k, acc, a, rfl, rfl, rfl, hk, hh⟩ := hrel
    obtain ⟨ha, hacc, hdec⟩ := hh.out
    clear hh
    have a0 : 0 ≤ a := by omega
    have a1 : a ≤ 4294967295 := by omega
    by_cases hkn : k < t.size
    · have hc := hB k hkn
      have hdrop : bs.drop k = bs[k]'(by omega) :: bs.drop (k + 1) := List.drop_eq_getElem_cons (by omega)
      have hget : bs.getD k 0 = bs[k]'(by omega) := by simp [List.getD, List.getElem?_eq_getElem (show k < bs.length by omega)]
      rw [hdrop] at hdec
      rw [hget] at hc
      generalize bs[k]'(by omega) = c at hc hdec
      have hc256 : c.toNat < 256 := c.toNat_lt
      clear hB hdrop hget
      have hv0 := bits_lo_u8 .or (c.toNat : Int) 32
      have hv1 := bits_hi_u8 .or (c.toNat : Int) 32
      have hlow : ((lowC c : Nat) : Int) = bits .or .u8 (c.toNat : Int) 32 := by unfold lowC; omega
      by_cases hdig : 48 ≤ c.toNat ∧ c.toNat ≤ 57
      · obtain ⟨hd0, hd1⟩ := hdig
        have hV : hexV c = c.toNat - 48 := by unfold hexV; rw [if_pos ⟨hd0, hd1⟩]
        by_cases hov : 4294967295 < acc * 16 + (c.toNat - 48)
        · have hF : hexP acc (c :: bs.drop (k + 1)) = .range := by rw [hexP, hV, if_pos (by omega), if_pos hov]
          rw [hF] at hdec
          have iov : 4294967295 < a * 16 + ((c.toNat : Int) - 48) := by omega
          clear hacc hF hov ha hv0 hv1 hlow hV
          go_wp2
          go_ret2
          exact ⟨rfl, rfl⟩
        · have hF : hexP acc (c :: bs.drop (k + 1)) = hexP (acc * 16 + (c.toNat - 48)) (bs.drop (k + 1)) := by rw [hexP, hV, if_pos (by omega), if_neg hov]
          have HN : Hid (a * 16 + ((c.toNat : Int) - 48) = ((acc * 16 + (c.toNat - 48) : Nat) : Int) ∧ acc * 16 + (c.toNat - 48) ≤ 4294967295 ∧ hexP 0 bs = hexP (acc * 16 + (c.toNat - 48)) (bs.drop (k + 1))) := Lib.hid ⟨by omega, by omega, hdec.trans hF⟩
          have iov : a * 16 + ((c.toNat : Int) - 48) ≤ 4294967295 := by omega
          clear hacc hF hov hdec ha hv0 hv1 hlow hV
          go_wp2
          refine ⟨⟨k + 1, acc * 16 + (c.toNat - 48), a * 16 + ((c.toNat : Int) - 48), rfl, (by first | rfl | (congr 1; omega)), (by first | rfl | (congr 1; omega)), by omega, HN⟩, by simp [intOf]; omega⟩
      · have hns : ∀ {x}, hexV c = x → 16 ≤ x → hexP acc (c :: bs.drop (k + 1)) = Lib.NumEnd.syntax := fun h1 h2 => by rw [hexP, h1, if_neg (by omega)]
        have hV : hexV c = if 97 ≤ lowC c ∧ lowC c ≤ 102 then lowC c - 87 else 16 := by unfold hexV; rw [if_neg hdig]
        obtain ⟨q, hq⟩ : ∃ q, q = bits .or .u8 (c.toNat : Int) 32 := ⟨_, rfl⟩
        rw [← hq] at hv0 hv1 hlow
        have clow : ∀ w, Calls Tryd.prog 35 #[.int .u8 (c.toNat : Int)] w fun e w' => e = .returned (.int .u8 q) ∧ w' = w := fun w => by rw [hq]; exact Tryd.internal_strconv_lower _ w
        by_cases h95 : c.toNat = 95
        · have hq95 : q = 127 := by rw [hq, h95]; decide +kernel
          have hF := hns (x := 16) (by rw [hV, if_neg (by omega)]) (Nat.le_refl _)
          rw [hF] at hdec
          subst hq95
          rw [h95] at clow
          clear hns hV hq hlow hF hdig hacc ha
          go_wp2_with (first | (go_at_call 35; refine (clow _).mono ?_; rintro e w' ⟨rfl, rfl⟩))
          go_ret2
          first | exact ⟨rfl, rfl⟩ | exact ⟨by rw [hdec]; rfl, rfl⟩
        · have h95' : (((c.toNat : Nat) : Int) == 95) = false := beq_eq_false_iff_ne.2 (by omega)
          clear h95
          have hd2 : (c.toNat : Int) < 48 ∨ 57 < (c.toNat : Int) := by omega
          rcases hd2 with hd2 | hd2
          · by_cases hx : 97 ≤ q ∧ q ≤ 102
            · obtain ⟨hx0, hx1⟩ := hx
              have hV2 : hexV c = lowC c - 87 := by rw [hV, if_pos (by omega)]
              by_cases hov : 4294967295 < acc * 16 + (lowC c - 87)
              · have hF : hexP acc (c :: bs.drop (k + 1)) = .range := by rw [hexP, hV2, if_pos (by omega), if_pos hov]
                rw [hF] at hdec
                have iov : 4294967295 < a * 16 + (q - 97 + 10) := by omega
                clear hacc hF hov ha hlow hV hV2 hns hq hdig
                go_wp2_with (go_at_call 35; refine (clow _).mono ?_; rintro e w' ⟨rfl, rfl⟩)
                go_ret2
                first | exact ⟨rfl, rfl⟩ | exact ⟨by rw [hdec]; rfl, rfl⟩
              · have hF : hexP acc (c :: bs.drop (k + 1)) = hexP (acc * 16 + (lowC c - 87)) (bs.drop (k + 1)) := by rw [hexP, hV2, if_pos (by omega), if_neg hov]
                have HN : Hid (a * 16 + (q - 97 + 10) = ((acc * 16 + (lowC c - 87) : Nat) : Int) ∧ acc * 16 + (lowC c - 87) ≤ 4294967295 ∧ hexP 0 bs = hexP (acc * 16 + (lowC c - 87)) (bs.drop (k + 1))) := Lib.hid ⟨by omega, by omega, hdec.trans hF⟩
                have iov : a * 16 + (q - 97 + 10) ≤ 4294967295 := by omega
                clear hacc hF hov hdec ha hlow hV hV2 hns hq hdig
                go_wp2_with (go_at_call 35; refine (clow _).mono ?_; rintro e w' ⟨rfl, rfl⟩)
                refine ⟨⟨k + 1, acc * 16 + (lowC c - 87), a * 16 + (q - 97 + 10), rfl, (by first | rfl | (congr 1; omega)), (by first | rfl | (congr 1; omega)), by omega, HN⟩, by simp [intOf]; omega⟩
            · have hF := hns (x := 16) (by rw [hV, if_neg (by omega)]) (Nat.le_refl _)
              rw [hF] at hdec
              clear hns hV hq hlow hF hdig hacc ha
              have hx2 : q < 97 ∨ (103 ≤ q ∧ q ≤ 122) ∨ 122 < q := by omega
              clear hx
              rcases hx2 with hx2 | ⟨hx2, hx3⟩ | hx2
              · go_wp2_with (go_at_call 35; refine (clow _).mono ?_; rintro e w' ⟨rfl, rfl⟩)
                go_ret2
                first | exact ⟨rfl, rfl⟩ | exact ⟨by rw [hdec]; rfl, rfl⟩
              · go_wp2_with (go_at_call 35; refine (clow _).mono ?_; rintro e w' ⟨rfl, rfl⟩)
                go_ret2
                first | exact ⟨rfl, rfl⟩ | exact ⟨by rw [hdec]; rfl, rfl⟩
              · go_wp2_with (go_at_call 35; refine (clow _).mono ?_; rintro e w' ⟨rfl, rfl⟩)
                go_ret2
                first | exact ⟨rfl, rfl⟩ | exact ⟨by rw [hdec]; rfl, rfl⟩
          · by_cases hx : 97 ≤ q ∧ q ≤ 102
            · obtain ⟨hx0, hx1⟩ := hx
              have hV2 : hexV c = lowC c - 87 := by rw [hV, if_pos (by omega)]
              by_cases hov : 4294967295 < acc * 16 + (lowC c - 87)
              · have hF : hexP acc (c :: bs.drop (k + 1)) = .range := by rw [hexP, hV2, if_pos (by omega), if_pos hov]
                rw [hF] at hdec
                have iov : 4294967295 < a * 16 + (q - 97 + 10) := by omega
                clear hacc hF hov ha hlow hV hV2 hns hq hdig
                go_wp2_with (go_at_call 35; refine (clow _).mono ?_; rintro e w' ⟨rfl, rfl⟩)
                go_ret2
                first | exact ⟨rfl, rfl⟩ | exact ⟨by rw [hdec]; rfl, rfl⟩
              · have hF : hexP acc (c :: bs.drop (k + 1)) = hexP (acc * 16 + (lowC c - 87)) (bs.drop (k + 1)) := by rw [hexP, hV2, if_pos (by omega), if_neg hov]
                have HN : Hid (a * 16 + (q - 97 + 10) = ((acc * 16 + (lowC c - 87) : Nat) : Int) ∧ acc * 16 + (lowC c - 87) ≤ 4294967295 ∧ hexP 0 bs = hexP (acc * 16 + (lowC c - 87)) (bs.drop (k + 1))) := Lib.hid ⟨by omega, by omega, hdec.trans hF⟩
                have iov : a * 16 + (q - 97 + 10) ≤ 4294967295 := by omega
                clear hacc hF hov hdec ha hlow hV hV2 hns hq hdig
                go_wp2_with (go_at_call 35; refine (clow _).mono ?_; rintro e w' ⟨rfl, rfl⟩)
                refine ⟨⟨k + 1, acc * 16 + (lowC c - 87), a * 16 + (q - 97 + 10), rfl, (by first | rfl | (congr 1; omega)), (by first | rfl | (congr 1; omega)), by omega, HN⟩, by simp [intOf]; omega⟩
            · have hF := hns (x := 16) (by rw [hV, if_neg (by omega)]) (Nat.le_refl _)
              rw [hF] at hdec
              clear hns hV hq hlow hF hdig hacc ha
              have hx2 : q < 97 ∨ (103 ≤ q ∧ q ≤ 122) ∨ 122 < q := by omega
              clear hx
              rcases hx2 with hx2 | ⟨hx2, hx3⟩ | hx2
              · go_wp2_with (go_at_call 35; refine (clow _).mono ?_; rintro e w' ⟨rfl, rfl⟩)
                go_ret2
                first | exact ⟨rfl, rfl⟩ | exact ⟨by rw [hdec]; rfl, rfl⟩
              · go_wp2_with (go_at_call 35; refine (clow _).mono ?_; rintro e w' ⟨rfl, rfl⟩)
                go_ret2
                first | exact ⟨rfl, rfl⟩ | exact ⟨by rw [hdec]; rfl, rfl⟩
              · go_wp2_with (go_at_call 35; refine (clow _).mono ?_; rintro e w' ⟨rfl, rfl⟩)
                go_ret2
                first | exact ⟨rfl, rfl⟩ | exact ⟨by rw [hdec]; rfl, rfl⟩
    · have hkk : k = t.size := by omega
      subst hkk
      have hF : hexP acc (bs.drop t.size) = .ok acc := by rw [List.drop_eq_nil_of_le (by omega)]; rfl
      rw [hF] at hdec
      subst ha
      clear hacc hF a0 a1
      go_wp2
      go_ret2
      exact ⟨rfl, rfl⟩

end Go.Proofs.YteibkechlkjpgabDoor
