/-
  hexOf and l01Hex: both give the eight digits. The table as the condition says.
-/
import Derived.Test.YteibkechlkjpgabDoorSh
import Derived.Test.YteibkechlkjpgabDoorHb
import Derived.Test.YteibkechlkjpgabDoorWa
import Derived.Test.YteibkechlkjpgabDoorVb
set_option linter.unusedVariables false
namespace Go.Proofs.YteibkechlkjpgabDoor
open Go.RowKit Go.Proofs.YteibkechlkjpgabDoor.Fl

/-- The word as a number. -/
def bitsN : Option Nat → Nat
  | none => 2143289344
  | some b => b
theorem bitsN_eq (c : Option Nat) : bitsC c = ((bitsN c : Nat) : Int) := by cases c <;> rfl
theorem bitsN_lt {x : Nat} {c : Option Nat} (h : Fv .f32 x c) : bitsN c < 4294967296 := by
  cases c with
  | none => decide
  | some b =>
    have e1 := (cls_some.1 h.is).2
    subst e1
    exact h.lt
theorem Db.on {B : Nat} {w w' : World} (h : Db w) (hb : Below B w w') (hB : w.heap.size ≤ B) : Db w' := (Lib.tabBelow_of_tabIs h) w' (hb.mono hB)
theorem ret_str' {a b : ByteArray} (h : a = b) : Ending.returned (.string a) = .returned (.string b) := by rw [h]
theorem bytes_eq {s : ByteArray} {l : List UInt8} (h : s.data.toList = l) : s = ⟨l.toArray⟩ := by subst h; rfl
abbrev hex8 (n : Nat) : ByteArray := ⟨(hexN 8 n).toArray⟩
theorem repeat_one : ∀ (q : Nat), Lib.repeatL [48] q = List.replicate q 48
  | 0 => rfl
  | q + 1 => by rw [Lib.repeatL, repeat_one q]; rfl

set_option maxHeartbeats 1000000 in
theorem c_hexOf {x : Nat} {c : Option Nat} (h : Fv .f32 x c) (w : World) (hd : Db w) :
    Calls Tryd.prog 24 #[.float .f32 x] w fun e w' => e = .returned (.string (hex8 (bitsN c))) ∧ Below w.heap.size w w' := by
  have hu := bitsN_lt h
  have cb := bitsOf_impl x c h w
  rw [bitsN_eq] at cb
  obtain ⟨n, hn⟩ : ∃ n, n = bitsN c := ⟨_, rfl⟩
  rw [← hn] at hu cb ⊢
  have cf : ∀ w', Below w.heap.size w w' → Calls Tryd.prog 29 #[.int .i64 n, .int .i64 16] w' fun e w'' => e = .returned (.string ⟨(hexDigits n).toArray⟩) ∧ Below w'.heap.size w' w'' := fun w' hb => c_FormatInt16 hu w' (hd.on hb (Nat.le_refl _))
  have h8 := hex8_eq hu
  have hl := hex_len 7 n (by omega)
  obtain ⟨ds, hds⟩ : ∃ ds, ds = hexDigits n := ⟨_, rfl⟩
  rw [← hds] at cf h8 hl
  obtain ⟨q, hq⟩ : ∃ q, q = 8 - ds.length := ⟨_, rfl⟩
  have hsub : (8 : Int) - ((ds.length : Nat) : Int) = (q : Int) := by omega
  have cr : ∀ w, Calls Tryd.prog 31 #[.string ⟨#[48]⟩, .int .i64 q] w fun e w' => e = .returned (.string ⟨(List.replicate q 48).toArray⟩) ∧ Below w.heap.size w w' := fun w => by
    have := Tryd.strings_Repeat ⟨#[48]⟩ q w (by omega) (by show 1 * q ≤ _; omega)
    rw [show (ByteArray.mk #[48]).data.toList = [48] from rfl, repeat_one] at this
    exact this
  rw [← hq] at h8
  have H8 := Lib.hid h8
  have hs1 : ¬ 9223372036854775807 < q + ds.length := by omega
  clear h8 hd hn hds hq h
  go_enter Tryd.func24, Tryd.ntmps24
  go_wp2_with fail
  refine cb.mono ?_
  rintro e w1 ⟨rfl, m, rfl⟩
  have hb1 : Below w.heap.size w (w.drewN m) := below_drewN (Below.refl _ _) _
  go_wp2_with fail
  refine (cf _ hb1).mono ?_
  rintro e w2 ⟨rfl, hb2⟩
  have hb2' := hb1.trans (hb2.mono hb1.size)
  go_wp2_with fail
  refine (cr _).mono ?_
  rintro e w3 ⟨rfl, hb3⟩
  have hb3' := hb2'.trans (hb3.mono hb2'.size)
  go_wp2_with fail
  go_ret
  exact ⟨ret_str' (bytes_eq (by rw [← H8.out]; simp)), hb3'⟩

end Go.Proofs.YteibkechlkjpgabDoor
