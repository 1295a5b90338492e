/-
  NumbersText: the two sides. No condition but the table's.
-/
import Derived.Test.YteibkechlkjpgaaDoorHg
set_option linter.unusedVariables false
namespace Go.Proofs.YteibkechlkjpgaaDoor
open Go.RowKit Go.Proofs.YteibkechlkjpgaaDoor.Fl

theorem ret_sb2 {a b : ByteArray} {c d : Bool} (h : a = b) (k : c = d) : Ending.returned (.tuple #[.string a, .bool c]) = .returned (.tuple #[.string b, .bool d]) := by rw [h, k]
theorem resN_yes {cs : List (Option Nat)} (h : cs.length ≤ 256) : resN cs = ⟨(txtN cs).toArray⟩ := by rw [resN, if_pos h]
theorem resN_no {cs : List (Option Nat)} (h : ¬ cs.length ≤ 256) : resN cs = ⟨#[]⟩ := by rw [resN, if_neg h]
def fewN (cs : List (Option Nat)) : Bool := decide (cs.length ≤ 256)
theorem fewN_yes {cs : List (Option Nat)} (h : cs.length ≤ 256) : fewN cs = true := by simpa [fewN] using h
theorem fewN_no {cs : List (Option Nat)} (h : ¬ cs.length ≤ 256) : fewN cs = false := by simpa [fewN] using h

theorem few_yes {As : Option Addr} {n cap : Nat} (hn : n ≤ 256) (w : World) : Calls Tryd.prog 12 #[.slice As n cap] w fun e w' => e = .returned (.bool true) ∧ w = w' := by
  have hI : decide (((n : Nat) : Int) ≤ 256) = true := by simp; omega
  go_enter Tryd.func12, Tryd.ntmps12
  go_wp2
  go_ret
  exact ⟨rfl, rfl⟩
theorem few_no {As : Option Addr} {n cap : Nat} (hn : 256 < n) (w : World) : Calls Tryd.prog 12 #[.slice As n cap] w fun e w' => e = .returned (.bool false) ∧ w = w' := by
  have hI : decide (((n : Nat) : Int) ≤ 256) = false := by simp; omega
  go_enter Tryd.func12, Tryd.ntmps12
  go_wp2
  go_ret
  exact ⟨rfl, rfl⟩

theorem c_spec_NumbersText {w : World} {A : Option Addr} {cap : Nat} {cs : List (Option Nat)} (h : RdC w A cs) :
    Calls Tryd.prog 5 #[.slice A cs.length cap] w fun e w' => e = .returned (.tuple #[.string (resN cs), .bool (fewN cs)]) ∧ Below w.heap.size w w' := by
  by_cases hk : cs.length ≤ 256
  · have HK := Lib.hid h
    clear h
    go_enter Tryd.func5, Tryd.ntmps5
    go_wp2_with (go_at_call 12; refine (few_yes hk _).mono ?_; rintro e w1 ⟨rfl, rfl⟩)
    refine (c_l01NText HK.out hk).mono ?_
    rintro e w2 ⟨rfl, hb2⟩
    go_wp2_with fail
    go_ret2
    exact ⟨ret_sb2 (resN_yes hk).symm (fewN_yes hk).symm, hb2⟩
  · clear h
    go_enter Tryd.func5, Tryd.ntmps5
    go_wp2_with (go_at_call 12; refine (few_no (by omega) _).mono ?_; rintro e w1 ⟨rfl, rfl⟩)
    go_ret2
    exact ⟨ret_sb2 (resN_no hk).symm (fewN_no hk).symm, Below.refl _ _⟩

/-- The texts joined. -/
theorem c_joined {w : World} {g : Nat} {cs : List (Option Nat)} (h : RowG mkH w g cs.length cs) (h64 : cs.length ≤ 256) :
    Calls Tryd.prog 19 #[.slice (some ⟨g, 0, none⟩) cs.length cs.length] w fun e w' => e = .returned (.string ⟨(txtN cs).toArray⟩) ∧ Below w.heap.size w w' := by
  by_cases h0 : cs = []
  · subst h0
    go_enter Tryd.func19, Tryd.ntmps19
    go_wp2
    go_ret
    exact ⟨rfl, Below.refl _ _⟩
  · have hl : 0 < cs.length := List.length_pos_iff.2 h0
    have em : (cs.map fun c => hex8 (bitsN c)).map (·.data.toList) = cs.map hx := by rw [List.map_map]; rfl
    have c := Tryd.strings_Join g 0 cs.length (cs.map fun c => hex8 (bitsN c)) ⟨#[44]⟩ w (fun j x hx => by
      rw [List.getElem?_map] at hx
      obtain ⟨z, hz, rfl⟩ := Option.map_eq_some_iff.1 hx
      obtain ⟨v, h1, h2⟩ := h.cell j (List.getElem?_eq_some_iff.1 hz).1
      obtain ⟨y, h3, rfl⟩ := h2 (List.getElem?_eq_some_iff.1 hz).1
      obtain rfl := Option.some.inj (hz.symm.trans h3)
      rw [Nat.zero_add]; exact h1) h.lt (by rw [List.length_map]; omega) (by rw [List.length_map]; exact Nat.le_refl _)
      (by rw [em]; exact Nat.le_trans (join_len h64) (by omega))
    rw [em, List.length_map] at c
    have e2 : (⟨(txtN cs).toArray⟩ : ByteArray) = ⟨(Lib.join (cs.map hx) [44]).toArray⟩ := by rw [txtN, if_neg h0]
    have HE := Lib.hid (And.intro e2 h)
    clear e2 h em h0
    go_enter Tryd.func19, Tryd.ntmps19
    go_wp2_with (go_at_call 24; refine c.mono ?_; rintro e w1 ⟨rfl, hb1⟩)
    go_ret
    exact ⟨ret_s2 HE.out.1.symm, hb1⟩

set_option maxHeartbeats 1000000 in
theorem c_impl_numbersText {w : World} {A : Option Addr} {cap : Nat} {cs : List (Option Nat)} (h : RdC w A cs) (h64 : cs.length ≤ 256) (ht : Db w) :
    Calls Tryd.prog 14 #[.slice A cs.length cap] w fun e w' => e = .returned (.string ⟨(txtN cs).toArray⟩) ∧ Below w.heap.size w w' := by
  obtain ⟨i0, hi, hz0, hz1, hz2⟩ := info_parts info9
  have hmk := run_make (P := Tryd.prog) w 40 9 i0 (.string ⟨#[]⟩) Tryd.underlying40 hi hz0 .i64 .i64 cs.length cs.length (by omega) (Int.le_refl _) (by rw [hz2]; omega) (by omega)
  rw [hz1] at hmk
  simp only [Int.toNat_natCast] at hmk
  change _ = Result.ok _ (w.alloc (.cells (madeCells #[.string ⟨#[]⟩] (cs.length * 1)) 9)) at hmk
  have hr0 := RowG.new mkH w cs (.string ⟨#[]⟩) 9
  have hb0 : Below w.heap.size w (w.alloc (.cells (madeCells #[.string ⟨#[]⟩] (cs.length * 1)) 9)) := (Below.refl _ _).alloc (Nat.le_refl _) _
  generalize hW : w.alloc (.cells (madeCells #[.string ⟨#[]⟩] (cs.length * 1)) 9) = W at *
  clear hW hi hz0 hz1 hz2
  have HR := Lib.hid hr0
  clear hr0
  go_enter Tryd.func14, Tryd.ntmps14
  go_wp2
  clear hmk
  go_loopw [11] (fun i wr => ∃ k : Nat, k ≤ cs.length ∧ i = .int .i64 k ∧ RowG mkH wr w.heap.size k cs ∧ Below w.heap.size w wr) (fun i _ => cs.length - (intOf i).toNat)
  case atStart => exact ⟨0, Nat.zero_le _, rfl, HR.out, hb0⟩
  case round =>
    obtain ⟨k, hk, rfl, hrow, hbw⟩ := hrel
    by_cases hlt : k < cs.length
    · obtain ⟨ad, z, rfl, hc, hz⟩ := (h.below hbw).at_ hlt
      have hc2 := hc.2
      have htw := ht.on hbw (Nat.le_refl _)
      have HN := Lib.hid (And.intro hrow (And.intro hc (And.intro hz (And.intro h (And.intro ht htw)))))
      clear hrow hc hz h ht htw
      go_wp2_with fail
      refine (c_hexOf HN.out.2.2.1 _ HN.out.2.2.2.2.2).mono ?_
      rintro e w2 ⟨rfl, hb2⟩
      have hrow2 := HN.out.1.below hb2
      obtain ⟨z0, hd, _⟩ := hrow2.cell k hlt
      have hf := hrow2.frozen k
      have HM := Lib.hid hrow2
      clear hrow2
      go_wp2_with fail
      obtain ⟨hrow, hc, hz, h, ht, htw⟩ := HN.out
      go_roundw
      case rel => exact ⟨k + 1, by omega, by go_num, HM.out.step (mk := mkH) hlt (List.getElem?_eq_getElem hlt), (hbw.trans (hb2.mono hbw.size)).setCell (Nat.le_refl _) _⟩
      case measure => simp [intOf]; omega
    · obtain rfl : k = cs.length := by omega
      have HN := Lib.hid hrow
      clear hrow h ht
      go_wp2_with fail
      refine (c_joined HN.out h64).mono ?_
      rintro e w2 ⟨rfl, hb2⟩
      go_wp2_with fail
      go_ret
      exact ⟨rfl, hbw.trans (hb2.mono hbw.size)⟩

theorem c_impl_NumbersText {w : World} {A : Option Addr} {cap : Nat} {cs : List (Option Nat)} (h : RdC w A cs) (hn : cs.length ≤ 1048576) (ht : Db w) :
    Calls Tryd.prog 7 #[.slice A cs.length cap] w fun e w' => e = .returned (.tuple #[.string (resN cs), .bool (fewN cs)]) ∧ Below w.heap.size w w' := by
  by_cases h64 : cs.length ≤ 256
  · have HN := Lib.hid (And.intro h ht)
    clear h ht
    go_enter Tryd.func7, Tryd.ntmps7
    go_wp2_with fail
    refine (c_impl_numbersText HN.out.1 h64 HN.out.2).mono ?_
    rintro e w2 ⟨rfl, hb2⟩
    go_wp2_with fail
    go_ret2
    exact ⟨ret_sb2 (resN_yes h64).symm (fewN_yes h64).symm, hb2⟩
  · clear h ht
    go_enter Tryd.func7, Tryd.ntmps7
    go_wp2
    go_ret2
    exact ⟨ret_sb2 (resN_no h64).symm (fewN_no h64).symm, Below.refl _ _⟩

end Go.Proofs.YteibkechlkjpgaaDoor
