/-
  Hexadecimal digits: the library's FormatInt at base 16 of a number of 32 bits. The table of the bit counts as the condition says.
-/
import Derived.Test.YteibkechlkjpgabDoorDa
import Derived.Lib.LaidTab
import Derived.Lib.AppendIntMem
import Derived.Lib.SmallJoins
import Derived.Laws.BitsAllLaws
import Derived.Laws.Slices
set_option linter.unusedVariables false
namespace Go.Proofs.YteibkechlkjpgabDoor
open Go.RowKit

/-! ### plain -/
def hexB (d : Nat) : UInt8 := UInt8.ofNat (if d < 10 then 48 + d else 87 + d)
/-- The hexadecimal digits, "0" for 0. -/
def hexDigits (u : Nat) : List UInt8 :=
  if h : u < 16 then [hexB u] else hexDigits (u / 16) ++ [hexB (u % 16)]
termination_by u
decreasing_by omega

theorem hex_small {u : Nat} (h : u < 16) : hexDigits u = [hexB u] := by rw [hexDigits, dif_pos h]
theorem hex_big {u : Nat} (h : ¬ u < 16) : hexDigits u = hexDigits (u / 16) ++ [hexB (u % 16)] := by rw [hexDigits, dif_neg h]
theorem hex_len : ∀ (k u : Nat), u < 16 ^ (k + 1) → (hexDigits u).length ≤ k + 1
  | 0, u, h => by rw [hex_small (by simpa using h)]; simp
  | k + 1, u, h => by
    by_cases c : u < 16
    · rw [hex_small c]; simp
    · rw [hex_big c, List.length_append]
      have := hex_len k (u / 16) (by rw [Nat.pow_succ] at h; omega)
      simp; omega
theorem hex_pos (u : Nat) : 1 ≤ (hexDigits u).length := by
  by_cases c : u < 16
  · rw [hex_small c]; simp
  · rw [hex_big c, List.length_append]; simp
def HexInv (u U : Nat) (ds : List UInt8) : Prop := hexDigits u = hexDigits U ++ ds
theorem HexInv.len {u U : Nat} {ds : List UInt8} (h : HexInv u U ds) (hu : u < 4294967296) : ds.length ≤ 7 := by
  have h1 := congrArg List.length h
  rw [List.length_append] at h1
  have h2 := hex_len 7 u (by omega)
  have h3 := hex_pos U
  omega
theorem HexInv.step {u U : Nat} {ds : List UInt8} (h : HexInv u U ds) (hU : ¬ U < 16) : HexInv u (U / 16) (hexB (U % 16) :: ds) := by
  unfold HexInv at *
  rw [h, hex_big hU, List.append_assoc]; rfl
theorem HexInv.fin {u U : Nat} {ds : List UInt8} (h : HexInv u U ds) (hU : U < 16) : hexDigits u = hexB U :: ds := by
  unfold HexInv at h
  rw [h, hex_small hU]; rfl

/-- math/bits' table. -/
def dbTab : List Int := [0, 1, 56, 2, 57, 49, 28, 3, 61, 58, 42, 50, 38, 29, 17, 4, 62, 47, 59, 36, 45, 43, 51, 22, 53, 39, 33, 30, 24, 18, 12, 5, 63, 55, 48, 27, 60, 41, 37, 16, 46, 35, 44, 21, 52, 32, 23, 11, 54, 26, 40, 15, 34, 20, 31, 10, 25, 14, 19, 9, 13, 8, 7, 6]
abbrev Db (w : World) : Prop := Lib.TabIs Tryd.prog w "math/bits.deBruijn64tab" .u8 dbTab
theorem gDb : ∃ g, Tryd.prog.globalNamed "math/bits.deBruijn64tab" = some g ∧ g = 8 := ⟨8, by kernel_rfl, rfl⟩

theorem c_trail (w : World) (h : Db w) : Calls Tryd.prog 74 #[.int .u64 16] w fun e w' => e = .returned (.int .i64 4) ∧ w' = w := by
  obtain ⟨g, hg, rfl⟩ := gDb
  have hc := h.cell hg 15 (by decide)
  have hc2 : w.cell? ⟨8, 15, none⟩ = some (.int .u8 4) := hc
  clear hc h hg
  have e1 : IntKind.u64.wrap (-16) = 18446744073709551600 := by decide +kernel
  have e2 : bits BinOp.and IntKind.u64 16 18446744073709551600 = 16 := by decide +kernel
  have e3 : IntKind.u64.wrap (16 * 285870213051353865) = 4573923408821661840 := by decide +kernel
  have e4 : IntKind.u64.wrap 4573923408821661840 = 4573923408821661840 := by decide +kernel
  go_enter Tryd.func74, Tryd.ntmps74
  go_wp2
  go_ret
  exact ⟨rfl, rfl⟩

theorem c_isPow (w : World) : Calls Tryd.prog 73 #[.int .i64 16] w fun e w' => e = .returned (.bool true) ∧ w' = w := by
  have e1 : bits BinOp.and IntKind.i64 16 15 = 0 := by decide +kernel
  go_enter Tryd.func73, Tryd.ntmps73
  go_wp2
  go_ret
  exact ⟨rfl, rfl⟩

/-- The bytes ds end the 65 cells of block g; all cells are there. -/
structure Tail65 (w : World) (g : Nat) (ds : List UInt8) : Prop where
  lt : g < w.heap.size
  cell : ∀ j, j < 65 → ∃ v, w.cell? ⟨g, j, none⟩ = some v
  byte : ∀ j b, ds[j]? = some b → w.cell? ⟨g, 65 - ds.length + j, none⟩ = some (bv b)
  frozen : ∀ o, w.frozen? ⟨g, o, none⟩ = false

theorem digit36 : ∀ d : Fin 16, (({ data := #[48, 49, 50, 51, 52, 53, 54, 55, 56, 57, 97, 98, 99, 100, 101, 102, 103, 104, 105, 106, 107, 108, 109, 110, 111, 112, 113, 114, 115, 116, 117, 118, 119, 120, 121, 122] } : ByteArray)[d.val]'(by have := d.2; simp [ByteArray.size]; omega)) = hexB d.val := by decide +kernel
theorem digit_at {d : Nat} (h : d < 16) (h2 : d < (ByteArray.mk #[48, 49, 50, 51, 52, 53, 54, 55, 56, 57, 97, 98, 99, 100, 101, 102, 103, 104, 105, 106, 107, 108, 109, 110, 111, 112, 113, 114, 115, 116, 117, 118, 119, 120, 121, 122]).size) : ((ByteArray.mk #[48, 49, 50, 51, 52, 53, 54, 55, 56, 57, 97, 98, 99, 100, 101, 102, 103, 104, 105, 106, 107, 108, 109, 110, 111, 112, 113, 114, 115, 116, 117, 118, 119, 120, 121, 122])[d]'h2) = hexB d := digit36 ⟨d, h⟩
theorem arr65 : Tryd.prog.arrayLen 102 = 65 := by kernel_rfl
theorem slice65 {g J : Nat} (hJ : J < 65) (W : World) : (Instr.sliceAt 102 (.pointer (some ⟨g, 0, none⟩)) (some (.int .i64 J)) none none).run Tryd.prog W = .ok (.slice (some ⟨g, J, none⟩) (65 - J) (65 - J)) W := by
  rw [run_sliceAt_array_l W 102 ⟨g, 0, none⟩ (by kernel_rfl) .i64 (J : Int) (by omega) (by rw [arr65]; omega)]
  have hs : (sizeOf (Tryd.prog.elem 102)).run Tryd.prog W = .ok 1 W := by kernel_rfl
  rw [hs, arr65]
  have hne : ¬ 65 = J := by omega
  simp [Result.andThen, slicedAt, hne]
  rw [Addr.add_lit, Nat.zero_add]
theorem tail_new (w : World) {Z : Array Value} (hZ : Z = (List.replicate 65 (Value.int .u8 0)).toArray) (t : TypeId) : Tail65 (w.alloc (.cells Z t)) w.heap.size [] := by
  subst hZ
  refine ⟨by simp, fun j hj => ⟨.int .u8 0, ?_⟩, fun j b hb => by simp at hb, fun o => by simp⟩
  have h1 : (List.replicate 65 (Value.int .u8 0)).toArray[j]? = some (.int .u8 0) := by rw [List.getElem?_toArray, List.getElem?_replicate, if_pos hj]
  simpa using h1
theorem and15 {U : Nat} (h : U < 18446744073709551616) : bits BinOp.and IntKind.u64 (U : Int) 15 = ((U % 16 : Nat) : Int) := by
  have e := u64_and_nat U 15 h (by decide)
  rw [show U &&& 15 = U % 16 from Nat.and_two_pow_sub_one_eq_mod U 4] at e
  exact e
theorem tail_step {w : World} {g J d : Nat} {ds : List UInt8} (h : Tail65 w g ds) (hJ : J + 1 + ds.length = 65) :
    Tail65 (w.setCell ⟨g, J, none⟩ (.int .u8 ((hexB d).toNat : Int))) g (hexB d :: ds) := by
  refine ⟨by simpa using h.lt, fun j hj => ?_, fun j b hb => ?_, fun o => by simpa using h.frozen o⟩
  · by_cases e : j = J
    · subst e
      obtain ⟨v, hv⟩ := h.cell j hj
      exact ⟨.int .u8 ((hexB d).toNat : Int), by go_simp⟩
    · obtain ⟨v, hv⟩ := h.cell j hj
      have hne : (⟨g, J, none⟩ : Addr) ≠ ⟨g, j, none⟩ := by intro c; cases c; exact e rfl
      exact ⟨v, by rw [← hv]; go_simp⟩
  · have hJe : 65 - (hexB d :: ds).length = J := by rw [List.length_cons]; omega
    rw [hJe]
    cases j with
    | zero =>
      obtain ⟨v, hv⟩ := h.cell J (by omega)
      simp at hb
      subst hb
      rw [Nat.add_zero]
      go_simp
    | succ j =>
      have hb2 : ds[j]? = some b := by simpa using hb
      have h3 := h.byte j b hb2
      have e : J + (j + 1) = 65 - ds.length + j := by omega
      rw [e]
      have hne : (⟨g, J, none⟩ : Addr) ≠ ⟨g, 65 - ds.length + j, none⟩ := by intro c; injection c with c1 c2; omega
      rw [← h3]; go_simp

theorem tail_string {w : World} {g : Nat} {ds : List UInt8} (h : Tail65 w g ds) : (convert 62 9 (.slice (some ⟨g, 65 - ds.length, none⟩) ds.length ds.length)).run Tryd.prog w = .ok (.string ⟨ds.toArray⟩) w :=
  run_convert_bytes_back w 62 9 5 ⟨g, 65 - ds.length, none⟩ ds.length ds Tryd.underlying62 Tryd.underlying5 Tryd.underlying9 fun j hj => by
    rw [Addr.add_lit]
    exact h.byte j _ (by simp [hj])
set_option maxRecDepth 20000 in
set_option maxHeartbeats 4000000 in
theorem c_formatBits {u : Nat} (hu : u < 4294967296) (w : World) (h : Db w) :
    Calls Tryd.prog 58 #[.slice none 0 0, .int .u64 u, .int .i64 16, .bool false, .bool false] w fun e w' => e = .returned (.tuple #[.slice none 0 0, .string ⟨(hexDigits u).toArray⟩]) ∧ Below w.heap.size w w' := by
  have hT : ∀ w', Below w.heap.size w w' → Db w' := fun w' hb => (Lib.tabBelow_of_tabIs h) w' hb
  clear h
  have HT := Lib.hid hT
  clear hT
  obtain ⟨Z, hZ⟩ : ∃ Z, Z = (List.replicate 65 (Value.int .u8 0)).toArray := ⟨_, rfl⟩
  have hz : ∀ W, (zeroValue 102).run Tryd.prog W = .ok (.agg Z) W := fun W => by rw [hZ]; kernel_rfl
  have HZ := Lib.hid hZ
  clear hZ
  go_enter Tryd.func58, Tryd.ntmps58
  go_wp2_with (first | (go_at_call 73; refine (c_isPow _).mono ?_; rintro e w' ⟨rfl, rfl⟩) | (go_at_call 74; refine (c_trail _ (HT.out _ ((Below.refl _ _).alloc (Nat.le_refl _) _))).mono ?_; rintro e w' ⟨rfl, rfl⟩))
  go_loopw [1, 13] (fun uu i wr => ∃ (U I : Nat) (ds : List UInt8), uu = .int .u64 U ∧ i = .int .i64 I ∧ I + ds.length = 65 ∧ U < 4294967296 ∧ Hid (HexInv u U ds) ∧ Tail65 wr w.heap.size ds ∧ Below w.heap.size w wr) (fun uu _ _ => (intOf uu).toNat)
  case atStart => exact ⟨u, 65, [], rfl, rfl, rfl, hu, by simp [Hid, HexInv], tail_new w (by first | exact HZ.out | kernel_rfl) _, (Below.refl _ _).alloc (Nat.le_refl _) _⟩
  case round =>
    obtain ⟨U, I, ds, rfl, rfl, hI, hU, hx, ht, hbw⟩ := hrel
    have hl := hx.out.len hu
    obtain ⟨J, rfl⟩ : ∃ J, I = J + 1 := ⟨I - 1, by omega⟩
    have hJ : J < 65 := by omega
    obtain ⟨v0, hc0⟩ := ht.cell J hJ
    have hfz := ht.frozen J
    have HN := Lib.hid (And.intro ht (And.intro hx (And.intro hbw hl)))
    clear ht hx
    by_cases hge : 16 ≤ U
    · have hand : bits BinOp.and IntKind.u64 (U : Int) 15 = ((U % 16 : Nat) : Int) := and15 (by omega)
      have hd : U % 16 < 16 := Nat.mod_lt _ (by decide)
      obtain ⟨d, hdd⟩ : ∃ d, d = U % 16 := ⟨_, rfl⟩
      rw [← hdd] at hand hd
      have HD := Lib.hid hdd
      clear hdd
      have hdig := @digit_at d hd
      go_wp2_with fail
      go_roundw
      case rel => exact ⟨U / 16, J, hexB d :: ds, by go_num, rfl, by rw [List.length_cons]; omega, by omega, (by rw [HD.out]; exact HN.out.2.1.out.step (by omega)), tail_step HN.out.1 (by omega), HN.out.2.2.1.setCell (Nat.le_refl _) _⟩
      case measure => simp [intOf]; omega
    · have hd : U < 16 := by omega
      have hdig := @digit_at U hd
      have htl := tail_step (d := U) HN.out.1 (J := J) (by omega)
      have hcv := tail_string htl
      have hlJ : (hexB U :: ds).length = 65 - J := by rw [List.length_cons]; omega
      rw [hlJ, show 65 - (65 - J) = J by omega, ← HN.out.2.1.out.fin hd] at hcv
      have hsl := slice65 (g := w.heap.size) hJ
      clear hlJ
      have HT2 := Lib.hid (And.intro htl hge)
      clear hge htl
      go_wp2_with fail
      go_ret2
      exact ⟨rfl, HN.out.2.2.1.setCell (Nat.le_refl _) _⟩

theorem c_FormatInt_in {u : Nat} (hu : u < 4294967296) (w : World) (h : Db w) :
    Calls Tryd.prog 41 #[.int .i64 u, .int .i64 16] w fun e w' => e = .returned (.string ⟨(hexDigits u).toArray⟩) ∧ Below w.heap.size w w' := by
  have c := c_formatBits hu w h
  clear h
  go_enter Tryd.func41, Tryd.ntmps41
  go_wp2_with (go_at_call 58; refine c.mono ?_; rintro e w1 ⟨rfl, hb1⟩)
  go_ret
  exact ⟨rfl, hb1⟩
theorem c_FormatInt16 {u : Nat} (hu : u < 4294967296) (w : World) (h : Db w) :
    Calls Tryd.prog 29 #[.int .i64 u, .int .i64 16] w fun e w' => e = .returned (.string ⟨(hexDigits u).toArray⟩) ∧ Below w.heap.size w w' := by
  have c := c_FormatInt_in hu w h
  clear h
  go_enter Tryd.func29, Tryd.ntmps29
  go_wp2_with (go_at_call 41; refine c.mono ?_; rintro e w1 ⟨rfl, hb1⟩)
  go_ret
  exact ⟨rfl, hb1⟩

end Go.Proofs.YteibkechlkjpgabDoor
