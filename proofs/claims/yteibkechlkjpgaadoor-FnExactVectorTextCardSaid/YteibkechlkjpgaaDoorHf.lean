/-
  l01Hex: the reference's eight digits. No condition.
-/
import Derived.Test.YteibkechlkjpgaaDoorHe
import Derived.WalkSpells
set_option linter.unusedVariables false
namespace Go.Proofs.YteibkechlkjpgaaDoor
open Go.RowKit Go.Proofs.YteibkechlkjpgaaDoor.Fl

theorem hexN_step (j n : Nat) (h : j < 8) : hexN (j + 1) (n / 16 ^ (8 - (j + 1))) = hexN j (n / 16 ^ (8 - j)) ++ [hexB (n / 16 ^ (8 - (j + 1)) % 16)] := by
  rw [hexN]
  congr 2
  rw [Nat.div_div_eq_div_mul, ← Nat.pow_succ, show (8 - (j + 1)).succ = 8 - j by omega]

theorem and15i {U : Int} (h : 0 ≤ U ∧ U < 9223372036854775808) : bits BinOp.and IntKind.i64 U 15 = U % 16 := by
  obtain ⟨V, rfl⟩ : ∃ V : Nat, U = V := ⟨U.toNat, by omega⟩
  have e := and_i64 V 15 (by omega) (by decide)
  rw [show V &&& 15 = V % 16 from Nat.and_two_pow_sub_one_eq_mod V 4] at e
  exact e
theorem one_bv (b : UInt8) : ∀ u ∈ [bv b], u.oneCell' = true := by
  intro u hu; rw [List.mem_singleton.1 hu]; rfl
theorem own_block {w : World} {base : Nat} {e : TypeId} {size : Nat} {v : Value} {n : Nat} {xs : List Value} (h : w.ownsRow base e size v n xs) : ∀ k, v.ownBlock = some k → base ≤ k := by
  intro k hk
  rcases h.2 with ⟨rfl, _⟩ | ⟨g, cap, cur, rfl, hbg, _⟩
  · simp [Value.ownBlock] at hk
  · simp [Value.ownBlock] at hk; omega
theorem digit16 {d : Nat} : ∀ (h : d < 16) (h2 : d < (ByteArray.mk #[48, 49, 50, 51, 52, 53, 54, 55, 56, 57, 97, 98, 99, 100, 101, 102]).size), ((ByteArray.mk #[48, 49, 50, 51, 52, 53, 54, 55, 56, 57, 97, 98, 99, 100, 101, 102])[d]'h2) = hexB d := by
  have all : ∀ d : Fin 16, ((ByteArray.mk #[48, 49, 50, 51, 52, 53, 54, 55, 56, 57, 97, 98, 99, 100, 101, 102])[d.val]'(by have := d.2; simp [ByteArray.size])) = hexB d.val := by decide +kernel
  exact fun h h2 => all ⟨d, h⟩

set_option maxRecDepth 20000 in
set_option maxHeartbeats 4000000 in
theorem c_l01Hex {x : Nat} {c : Option Nat} (h : Fv .f32 x c) (w : World) :
    Calls Tryd.prog 17 #[.float .f32 x] w fun e w' => e = .returned (.string (hex8 (bitsN c))) ∧ Below w.heap.size w w' := by
  have hu := bitsN_lt h
  have cb := l01Bits_spec x c h w
  rw [bitsN_eq] at cb
  obtain ⟨n, hn⟩ : ∃ n, n = bitsN c := ⟨_, rfl⟩
  rw [← hn] at hu cb ⊢
  clear hn h
  go_enter Tryd.func17, Tryd.ntmps17
  go_wp2_with fail
  refine cb.mono ?_
  rintro e w1 ⟨rfl, m, rfl⟩
  go_wp2_with fail
  have h00 := World.ownsRow_lit (e := 5) (size := 1) (base := w.heap.size) (w.drewN m) #[] 0 (by simp) (Nat.zero_le _) rfl
  obtain ⟨i0, hi, hz0, hz1, hz2⟩ := info_parts info5
  have HI := Lib.hid (And.intro hi (And.intro hz0 (And.intro hz1 hz2)))
  clear hi hz0 hz1 hz2
  have H0 := Lib.hid h00
  clear h00
  go_loopw [4, 5] (fun v kk wr => ∃ j : Nat, j ≤ 8 ∧ kk = .int .i64 (28 - 4 * (j : Int)) ∧ wr.ownsRow w.heap.size 5 1 v j ((hexN j (n / 16 ^ (8 - j))).map bv) ∧ Below w.heap.size w wr) (fun _ kk _ => (intOf kk + 4).toNat)
  case atStart => exact ⟨0, Nat.zero_le _, rfl, by exact H0.out, (below_drewN (Below.refl _ _) _).alloc (by simp) _⟩
  case round =>
    obtain ⟨j, hj, rfl, hown, hbw⟩ := hrel
    have hsz := hbw.size
    have HN := Lib.hid (And.intro hown hbw)
    have hcase : j = 0 ∨ j = 1 ∨ j = 2 ∨ j = 3 ∨ j = 4 ∨ j = 5 ∨ j = 6 ∨ j = 7 ∨ j = 8 := by omega
    clear hown hbw
    rcases hcase with rfl | rfl | rfl | rfl | rfl | rfl | rfl | rfl | rfl
    · have hand : bits BinOp.and IntKind.i64 ((n : Int) / 268435456) 15 = ((n / 268435456 % 16 : Nat) : Int) := and15i (by omega)
      have hd : n / 268435456 % 16 < 16 := Nat.mod_lt _ (by decide)
      obtain ⟨d, hdd⟩ : ∃ d, d = n / 268435456 % 16 := ⟨_, rfl⟩
      rw [← hdd] at hand hd
      have HD := Lib.hid hdd
      clear hdd
      have hdig := @digit16 d hd
      go_wp2_with (at_builtin; refine wpList_append_own _ rfl _ _ 43 rfl w.heap.size 5 i0 (.int .u8 0) 1 1 Tryd.underlying43 HI.out.1 HI.out.2.1 HI.out.2.2.1 HI.out.2.2.2 rfl (by decide) _ 0 _ rfl (HN.out.1.alloc _) ⟨wr.heap.size, 0, none⟩ 1 1 [bv (hexB d)] rfl rfl (cell_one_new _ _ _) (one_bv _) ?a0 ?b0 ?c0 ?_)
      case a0 => unfold maxLen; omega
      case c0 => first | omega | (simp; omega)
      intro v3 w3 hown hgrow _
      have hbw3 : Below w.heap.size w w3 := (HN.out.2.alloc hsz _).grown hgrow (by simp; omega) (own_block HN.out.1)
      have hown3 : w3.ownsRow w.heap.size 5 1 v3 1 ((hexN 1 (n / 16 ^ (8 - 1))).map bv) := by
        rw [hexN_step 0 n (by decide), List.map_append]
        have e : n / 16 ^ (8 - (0 + 1)) % 16 = d := by rw [HD.out]
        rw [e]; exact hown
      have HK := Lib.hid (And.intro hown3 hbw3)
      clear hown hgrow hbw3 hown3
      go_wp2_with fail
      go_roundw
      case rel => exact ⟨1, by omega, by go_num, HK.out.1, HK.out.2⟩
      case measure => simp [intOf]
    · have hand : bits BinOp.and IntKind.i64 ((n : Int) / 16777216) 15 = ((n / 16777216 % 16 : Nat) : Int) := and15i (by omega)
      have hd : n / 16777216 % 16 < 16 := Nat.mod_lt _ (by decide)
      obtain ⟨d, hdd⟩ : ∃ d, d = n / 16777216 % 16 := ⟨_, rfl⟩
      rw [← hdd] at hand hd
      have HD := Lib.hid hdd
      clear hdd
      have hdig := @digit16 d hd
      go_wp2_with (at_builtin; refine wpList_append_own _ rfl _ _ 43 rfl w.heap.size 5 i0 (.int .u8 0) 1 1 Tryd.underlying43 HI.out.1 HI.out.2.1 HI.out.2.2.1 HI.out.2.2.2 rfl (by decide) _ 1 _ rfl (HN.out.1.alloc _) ⟨wr.heap.size, 0, none⟩ 1 1 [bv (hexB d)] rfl rfl (cell_one_new _ _ _) (one_bv _) ?a1 ?b1 ?c1 ?_)
      case a1 => unfold maxLen; omega
      case c1 => first | omega | (simp; omega)
      intro v3 w3 hown hgrow _
      have hbw3 : Below w.heap.size w w3 := (HN.out.2.alloc hsz _).grown hgrow (by simp; omega) (own_block HN.out.1)
      have hown3 : w3.ownsRow w.heap.size 5 1 v3 2 ((hexN 2 (n / 16 ^ (8 - 2))).map bv) := by
        rw [hexN_step 1 n (by decide), List.map_append]
        have e : n / 16 ^ (8 - (1 + 1)) % 16 = d := by rw [HD.out]
        rw [e]; exact hown
      have HK := Lib.hid (And.intro hown3 hbw3)
      clear hown hgrow hbw3 hown3
      go_wp2_with fail
      go_roundw
      case rel => exact ⟨2, by omega, by go_num, HK.out.1, HK.out.2⟩
      case measure => simp [intOf]
    · have hand : bits BinOp.and IntKind.i64 ((n : Int) / 1048576) 15 = ((n / 1048576 % 16 : Nat) : Int) := and15i (by omega)
      have hd : n / 1048576 % 16 < 16 := Nat.mod_lt _ (by decide)
      obtain ⟨d, hdd⟩ : ∃ d, d = n / 1048576 % 16 := ⟨_, rfl⟩
      rw [← hdd] at hand hd
      have HD := Lib.hid hdd
      clear hdd
      have hdig := @digit16 d hd
      go_wp2_with (at_builtin; refine wpList_append_own _ rfl _ _ 43 rfl w.heap.size 5 i0 (.int .u8 0) 1 1 Tryd.underlying43 HI.out.1 HI.out.2.1 HI.out.2.2.1 HI.out.2.2.2 rfl (by decide) _ 2 _ rfl (HN.out.1.alloc _) ⟨wr.heap.size, 0, none⟩ 1 1 [bv (hexB d)] rfl rfl (cell_one_new _ _ _) (one_bv _) ?a2 ?b2 ?c2 ?_)
      case a2 => unfold maxLen; omega
      case c2 => first | omega | (simp; omega)
      intro v3 w3 hown hgrow _
      have hbw3 : Below w.heap.size w w3 := (HN.out.2.alloc hsz _).grown hgrow (by simp; omega) (own_block HN.out.1)
      have hown3 : w3.ownsRow w.heap.size 5 1 v3 3 ((hexN 3 (n / 16 ^ (8 - 3))).map bv) := by
        rw [hexN_step 2 n (by decide), List.map_append]
        have e : n / 16 ^ (8 - (2 + 1)) % 16 = d := by rw [HD.out]
        rw [e]; exact hown
      have HK := Lib.hid (And.intro hown3 hbw3)
      clear hown hgrow hbw3 hown3
      go_wp2_with fail
      go_roundw
      case rel => exact ⟨3, by omega, by go_num, HK.out.1, HK.out.2⟩
      case measure => simp [intOf]
    · have hand : bits BinOp.and IntKind.i64 ((n : Int) / 65536) 15 = ((n / 65536 % 16 : Nat) : Int) := and15i (by omega)
      have hd : n / 65536 % 16 < 16 := Nat.mod_lt _ (by decide)
      obtain ⟨d, hdd⟩ : ∃ d, d = n / 65536 % 16 := ⟨_, rfl⟩
      rw [← hdd] at hand hd
      have HD := Lib.hid hdd
      clear hdd
      have hdig := @digit16 d hd
      go_wp2_with (at_builtin; refine wpList_append_own _ rfl _ _ 43 rfl w.heap.size 5 i0 (.int .u8 0) 1 1 Tryd.underlying43 HI.out.1 HI.out.2.1 HI.out.2.2.1 HI.out.2.2.2 rfl (by decide) _ 3 _ rfl (HN.out.1.alloc _) ⟨wr.heap.size, 0, none⟩ 1 1 [bv (hexB d)] rfl rfl (cell_one_new _ _ _) (one_bv _) ?a3 ?b3 ?c3 ?_)
      case a3 => unfold maxLen; omega
      case c3 => first | omega | (simp; omega)
      intro v3 w3 hown hgrow _
      have hbw3 : Below w.heap.size w w3 := (HN.out.2.alloc hsz _).grown hgrow (by simp; omega) (own_block HN.out.1)
      have hown3 : w3.ownsRow w.heap.size 5 1 v3 4 ((hexN 4 (n / 16 ^ (8 - 4))).map bv) := by
        rw [hexN_step 3 n (by decide), List.map_append]
        have e : n / 16 ^ (8 - (3 + 1)) % 16 = d := by rw [HD.out]
        rw [e]; exact hown
      have HK := Lib.hid (And.intro hown3 hbw3)
      clear hown hgrow hbw3 hown3
      go_wp2_with fail
      go_roundw
      case rel => exact ⟨4, by omega, by go_num, HK.out.1, HK.out.2⟩
      case measure => simp [intOf]
    · have hand : bits BinOp.and IntKind.i64 ((n : Int) / 4096) 15 = ((n / 4096 % 16 : Nat) : Int) := and15i (by omega)
      have hd : n / 4096 % 16 < 16 := Nat.mod_lt _ (by decide)
      obtain ⟨d, hdd⟩ : ∃ d, d = n / 4096 % 16 := ⟨_, rfl⟩
      rw [← hdd] at hand hd
      have HD := Lib.hid hdd
      clear hdd
      have hdig := @digit16 d hd
      go_wp2_with (at_builtin; refine wpList_append_own _ rfl _ _ 43 rfl w.heap.size 5 i0 (.int .u8 0) 1 1 Tryd.underlying43 HI.out.1 HI.out.2.1 HI.out.2.2.1 HI.out.2.2.2 rfl (by decide) _ 4 _ rfl (HN.out.1.alloc _) ⟨wr.heap.size, 0, none⟩ 1 1 [bv (hexB d)] rfl rfl (cell_one_new _ _ _) (one_bv _) ?a4 ?b4 ?c4 ?_)
      case a4 => unfold maxLen; omega
      case c4 => first | omega | (simp; omega)
      intro v3 w3 hown hgrow _
      have hbw3 : Below w.heap.size w w3 := (HN.out.2.alloc hsz _).grown hgrow (by simp; omega) (own_block HN.out.1)
      have hown3 : w3.ownsRow w.heap.size 5 1 v3 5 ((hexN 5 (n / 16 ^ (8 - 5))).map bv) := by
        rw [hexN_step 4 n (by decide), List.map_append]
        have e : n / 16 ^ (8 - (4 + 1)) % 16 = d := by rw [HD.out]
        rw [e]; exact hown
      have HK := Lib.hid (And.intro hown3 hbw3)
      clear hown hgrow hbw3 hown3
      go_wp2_with fail
      go_roundw
      case rel => exact ⟨5, by omega, by go_num, HK.out.1, HK.out.2⟩
      case measure => simp [intOf]
    · have hand : bits BinOp.and IntKind.i64 ((n : Int) / 256) 15 = ((n / 256 % 16 : Nat) : Int) := and15i (by omega)
      have hd : n / 256 % 16 < 16 := Nat.mod_lt _ (by decide)
      obtain ⟨d, hdd⟩ : ∃ d, d = n / 256 % 16 := ⟨_, rfl⟩
      rw [← hdd] at hand hd
      have HD := Lib.hid hdd
      clear hdd
      have hdig := @digit16 d hd
      go_wp2_with (at_builtin; refine wpList_append_own _ rfl _ _ 43 rfl w.heap.size 5 i0 (.int .u8 0) 1 1 Tryd.underlying43 HI.out.1 HI.out.2.1 HI.out.2.2.1 HI.out.2.2.2 rfl (by decide) _ 5 _ rfl (HN.out.1.alloc _) ⟨wr.heap.size, 0, none⟩ 1 1 [bv (hexB d)] rfl rfl (cell_one_new _ _ _) (one_bv _) ?a5 ?b5 ?c5 ?_)
      case a5 => unfold maxLen; omega
      case c5 => first | omega | (simp; omega)
      intro v3 w3 hown hgrow _
      have hbw3 : Below w.heap.size w w3 := (HN.out.2.alloc hsz _).grown hgrow (by simp; omega) (own_block HN.out.1)
      have hown3 : w3.ownsRow w.heap.size 5 1 v3 6 ((hexN 6 (n / 16 ^ (8 - 6))).map bv) := by
        rw [hexN_step 5 n (by decide), List.map_append]
        have e : n / 16 ^ (8 - (5 + 1)) % 16 = d := by rw [HD.out]
        rw [e]; exact hown
      have HK := Lib.hid (And.intro hown3 hbw3)
      clear hown hgrow hbw3 hown3
      go_wp2_with fail
      go_roundw
      case rel => exact ⟨6, by omega, by go_num, HK.out.1, HK.out.2⟩
      case measure => simp [intOf]
    · have hand : bits BinOp.and IntKind.i64 ((n : Int) / 16) 15 = ((n / 16 % 16 : Nat) : Int) := and15i (by omega)
      have hd : n / 16 % 16 < 16 := Nat.mod_lt _ (by decide)
      obtain ⟨d, hdd⟩ : ∃ d, d = n / 16 % 16 := ⟨_, rfl⟩
      rw [← hdd] at hand hd
      have HD := Lib.hid hdd
      clear hdd
      have hdig := @digit16 d hd
      go_wp2_with (at_builtin; refine wpList_append_own _ rfl _ _ 43 rfl w.heap.size 5 i0 (.int .u8 0) 1 1 Tryd.underlying43 HI.out.1 HI.out.2.1 HI.out.2.2.1 HI.out.2.2.2 rfl (by decide) _ 6 _ rfl (HN.out.1.alloc _) ⟨wr.heap.size, 0, none⟩ 1 1 [bv (hexB d)] rfl rfl (cell_one_new _ _ _) (one_bv _) ?a6 ?b6 ?c6 ?_)
      case a6 => unfold maxLen; omega
      case c6 => first | omega | (simp; omega)
      intro v3 w3 hown hgrow _
      have hbw3 : Below w.heap.size w w3 := (HN.out.2.alloc hsz _).grown hgrow (by simp; omega) (own_block HN.out.1)
      have hown3 : w3.ownsRow w.heap.size 5 1 v3 7 ((hexN 7 (n / 16 ^ (8 - 7))).map bv) := by
        rw [hexN_step 6 n (by decide), List.map_append]
        have e : n / 16 ^ (8 - (6 + 1)) % 16 = d := by rw [HD.out]
        rw [e]; exact hown
      have HK := Lib.hid (And.intro hown3 hbw3)
      clear hown hgrow hbw3 hown3
      go_wp2_with fail
      go_roundw
      case rel => exact ⟨7, by omega, by go_num, HK.out.1, HK.out.2⟩
      case measure => simp [intOf]
    · have hand : bits BinOp.and IntKind.i64 ((n : Int)) 15 = ((n % 16 : Nat) : Int) := and15i (by omega)
      have hd : n % 16 < 16 := Nat.mod_lt _ (by decide)
      obtain ⟨d, hdd⟩ : ∃ d, d = n % 16 := ⟨_, rfl⟩
      rw [← hdd] at hand hd
      have HD := Lib.hid hdd
      clear hdd
      have hdig := @digit16 d hd
      go_wp2_with (at_builtin; refine wpList_append_own _ rfl _ _ 43 rfl w.heap.size 5 i0 (.int .u8 0) 1 1 Tryd.underlying43 HI.out.1 HI.out.2.1 HI.out.2.2.1 HI.out.2.2.2 rfl (by decide) _ 7 _ rfl (HN.out.1.alloc _) ⟨wr.heap.size, 0, none⟩ 1 1 [bv (hexB d)] rfl rfl (cell_one_new _ _ _) (one_bv _) ?a7 ?b7 ?c7 ?_)
      case a7 => unfold maxLen; omega
      case c7 => first | omega | (simp; omega)
      intro v3 w3 hown hgrow _
      have hbw3 : Below w.heap.size w w3 := (HN.out.2.alloc hsz _).grown hgrow (by simp; omega) (own_block HN.out.1)
      have hown3 : w3.ownsRow w.heap.size 5 1 v3 8 ((hexN 8 (n / 16 ^ (8 - 8))).map bv) := by
        rw [hexN_step 7 n (by decide), List.map_append]
        have e : n / 16 ^ (8 - (7 + 1)) % 16 = d := by rw [HD.out]; simp
        rw [e]; exact hown
      have HK := Lib.hid (And.intro hown3 hbw3)
      clear hown hgrow hbw3 hown3
      go_wp2_with fail
      go_roundw
      case rel => exact ⟨8, by omega, by go_num, HK.out.1, HK.out.2⟩
      case measure => simp [intOf]
    · have hne : hexN 8 n ≠ [] := by intro e; have := congrArg List.length e; rw [hexN_length] at this; cases this
      have hown8 := HN.out.1
      rw [show n / 16 ^ (8 - 8) = n by simp] at hown8
      obtain ⟨g3, cap3, rfl, hB3⟩ := bytes_own (hexN_length 8 n).symm hne hown8
      have hcv := bytes_string (cap := cap3) hB3
      rw [hexN_length] at hcv ⊢
      clear hown8 hB3
      go_wp2_with fail
      go_ret
      exact ⟨rfl, HN.out.2⟩

end Go.Proofs.YteibkechlkjpgaaDoor
