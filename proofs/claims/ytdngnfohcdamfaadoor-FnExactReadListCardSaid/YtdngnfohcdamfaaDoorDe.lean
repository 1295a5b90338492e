/-
  ListText: the two sides and the walk. No condition but the table's.
-/
import Derived.Test.YtdngnfohcdamfaaDoorDd
set_option linter.unusedVariables false
namespace Go.Proofs.YtdngnfohcdamfaaDoor
open Go.RowKit Go.Proofs.YtdngnfohcdamfaaDoor.Fl

theorem resL_yes {xs : List Int} (h : okL xs = true) : resL xs = ⟨(txt xs).toArray⟩ := by rw [resL, if_pos h]
theorem resL_no {xs : List Int} (h : okL xs = false) : resL xs = ⟨#[]⟩ := by rw [resL, if_neg (by rw [h]; decide)]
theorem okL_inv {xs : List Int} (h : okL xs = true) : xs.all inV = true ∧ xs.length ≤ 64 := by simpa [okL] using h
theorem all_mem {xs : List Int} (h : xs.all inV = true) {k : Nat} {z : Int} (hz : xs[k]? = some z) : -1000000000000000 ≤ z ∧ z ≤ 1000000000000000 :=
  inV_range (List.all_eq_true.1 h z (List.mem_of_getElem? hz))

theorem c_spec_ListText {w : World} {A : Option Addr} {cap : Nat} {xs : List Int} (h : RdI w A xs) (hn : xs.length ≤ 1048576) :
    Calls Tryd.prog 9 #[.slice A xs.length cap] w fun e w' => e = .returned (.tuple #[.string (resL xs), .bool (okL xs)]) ∧ Below w.heap.size w w' := by
  cases hk : okL xs with
  | true =>
    have HK := Lib.hid hk
    have c := c_l01List (cap := cap) h hn
    rw [hk] at c
    clear hk
    go_enter Tryd.func9, Tryd.ntmps9
    go_wp2_with (go_at_call 21; refine c.mono ?_; rintro e w1 ⟨rfl, hb1⟩)
    refine (c_l01Text (h.below hb1) (okL_inv HK.out).1 (okL_inv HK.out).2).mono ?_
    rintro e w2 ⟨rfl, hb2⟩
    go_wp2_with fail
    go_ret2
    exact ⟨ret_sb (resL_yes HK.out).symm rfl, hb1.trans (hb2.mono hb1.size)⟩
  | false =>
    have HK := Lib.hid hk
    have c := c_l01List (cap := cap) h hn
    rw [hk] at c
    clear hk
    go_enter Tryd.func9, Tryd.ntmps9
    go_wp2_with (go_at_call 21; refine c.mono ?_; rintro e w1 ⟨rfl, hb1⟩)
    go_ret2
    exact ⟨ret_sb (resL_no HK.out).symm rfl, hb1⟩

/-- The texts joined. -/
theorem c_joined {w : World} {g : Nat} {xs : List Int} (h : RowG (fun z => mkS (dec z)) w g xs.length xs) (hv : xs.all inV = true) (h64 : xs.length ≤ 64) :
    Calls Tryd.prog 31 #[.slice (some ⟨g, 0, none⟩) xs.length xs.length] w fun e w' => e = .returned (.string ⟨(txt xs).toArray⟩) ∧ Below w.heap.size w w' := by
  by_cases h0 : xs = []
  · subst h0
    go_enter Tryd.func31, Tryd.ntmps31
    go_wp2
    go_ret
    exact ⟨rfl, Below.refl _ _⟩
  · have hl : 0 < xs.length := List.length_pos_iff.2 h0
    have em : (xs.map dec).map (·.data.toList) = xs.map Lib.itoa := by rw [List.map_map]; rfl
    have c := Tryd.strings_Join g 0 xs.length (xs.map dec) ⟨#[44]⟩ w (fun j x hx => by
      rw [List.getElem?_map] at hx
      obtain ⟨z, hz, rfl⟩ := Option.map_eq_some_iff.1 hx
      obtain ⟨v, h1, h2⟩ := h.cell j (List.getElem?_eq_some_iff.1 hz).1
      obtain ⟨y, h3, rfl⟩ := h2 (List.getElem?_eq_some_iff.1 hz).1
      obtain rfl := Option.some.inj (hz.symm.trans h3)
      rw [Nat.zero_add]; exact h1) h.lt (by rw [List.length_map]; omega) (by rw [List.length_map]; exact Nat.le_refl _)
      (by rw [em]; exact Nat.le_trans (join_len hv h64) (by omega))
    rw [em, List.length_map] at c
    have e2 : (⟨(txt xs).toArray⟩ : ByteArray) = ⟨(Lib.join (xs.map Lib.itoa) [44]).toArray⟩ := by rw [txt, if_neg h0]
    have HE := Lib.hid (And.intro e2 h)
    clear e2 h em hv h0
    go_enter Tryd.func31, Tryd.ntmps31
    go_wp2_with (go_at_call 40; refine c.mono ?_; rintro e w1 ⟨rfl, hb1⟩)
    go_ret
    exact ⟨ret_s HE.out.1.symm, hb1⟩

set_option maxHeartbeats 1000000 in
theorem c_impl_listText {w : World} {A : Option Addr} {cap : Nat} {xs : List Int} (h : RdI w A xs) (hv : xs.all inV = true) (h64 : xs.length ≤ 64) (ht : Tab w) :
    Calls Tryd.prog 24 #[.slice A xs.length cap] w fun e w' => e = .returned (.string ⟨(txt xs).toArray⟩) ∧ Below w.heap.size w w' := by
  obtain ⟨i0, hi, hz0, hz1, hz2⟩ := info_parts info9
  have hmk := run_make (P := Tryd.prog) w 43 9 i0 (.string ⟨#[]⟩) Tryd.underlying43 hi hz0 .i64 .i64 xs.length xs.length (by omega) (Int.le_refl _) (by rw [hz2]; omega) (by omega)
  rw [hz1] at hmk
  simp only [Int.toNat_natCast] at hmk
  change _ = Result.ok _ (w.alloc (.cells (madeCells #[.string ⟨#[]⟩] (xs.length * 1)) 9)) at hmk
  have hr0 := RowG.new (fun z => mkS (dec z)) w xs (.string ⟨#[]⟩) 9
  have hb0 : Below w.heap.size w (w.alloc (.cells (madeCells #[.string ⟨#[]⟩] (xs.length * 1)) 9)) := (Below.refl _ _).alloc (Nat.le_refl _) _
  generalize hW : w.alloc (.cells (madeCells #[.string ⟨#[]⟩] (xs.length * 1)) 9) = W at *
  clear hW hi hz0 hz1 hz2
  have HR := Lib.hid hr0
  clear hr0
  go_enter Tryd.func24, Tryd.ntmps24
  go_wp2
  clear hmk
  go_loopw [11] (fun i wr => ∃ k : Nat, k ≤ xs.length ∧ i = .int .i64 k ∧ RowG (fun z => mkS (dec z)) wr w.heap.size k xs ∧ Below w.heap.size w wr) (fun i _ => xs.length - (intOf i).toNat)
  case atStart => exact ⟨0, Nat.zero_le _, rfl, HR.out, hb0⟩
  case round =>
    obtain ⟨k, hk, rfl, hrow, hbw⟩ := hrel
    by_cases hlt : k < xs.length
    · obtain ⟨ad, z, rfl, hc, hz⟩ := (h.below hbw).at_ hlt
      have hr := all_mem hv hz
      have hc2 := hc.2
      have htw := ht.on hbw (Nat.le_refl _)
      have HN := Lib.hid (And.intro hrow (And.intro hc (And.intro hz (And.intro h (And.intro hv (And.intro ht htw))))))
      clear hrow hc hz h hv ht htw
      go_wp2_with fail
      refine (c_impl_Decimal (by omega) (by omega) _ HN.out.2.2.2.2.2.2).mono ?_
      rintro e w2 ⟨rfl, hb2⟩
      have hrow2 := HN.out.1.below hb2
      obtain ⟨z0, hd, _⟩ := hrow2.cell k hlt
      have hf := hrow2.frozen k
      have HM := Lib.hid hrow2
      clear hrow2
      go_wp2_with fail
      obtain ⟨hrow, hc, hz, h, hv, ht, htw⟩ := HN.out
      go_roundw
      case rel => exact ⟨k + 1, by omega, by go_num, HM.out.step (mk := fun z => mkS (dec z)) hlt hz, (hbw.trans (hb2.mono hbw.size)).setCell (Nat.le_refl _) _⟩
      case measure => simp [intOf]; omega
    · obtain rfl : k = xs.length := by omega
      have HN := Lib.hid (And.intro hrow hv)
      clear hrow h hv ht
      go_wp2_with fail
      refine (c_joined HN.out.1 HN.out.2 h64).mono ?_
      rintro e w2 ⟨rfl, hb2⟩
      go_wp2_with fail
      go_ret
      exact ⟨rfl, hbw.trans (hb2.mono hbw.size)⟩

set_option maxHeartbeats 1000000 in
theorem c_impl_ListText {w : World} {A : Option Addr} {cap : Nat} {xs : List Int} (h : RdI w A xs) (hn : xs.length ≤ 1048576) (ht : Tab w) :
    Calls Tryd.prog 11 #[.slice A xs.length cap] w fun e w' => e = .returned (.tuple #[.string (resL xs), .bool (okL xs)]) ∧ Below w.heap.size w w' := by
  by_cases h64 : xs.length ≤ 64
  · go_enter Tryd.func11, Tryd.ntmps11
    go_wp2
    go_loopw [11] (fun i wr => ∃ k : Nat, k ≤ xs.length ∧ i = .int .i64 k ∧ Hid ((xs.take k).all inV = true) ∧ Below w.heap.size w wr) (fun i _ => xs.length - (intOf i).toNat)
    case atStart => exact ⟨0, Nat.zero_le _, rfl, rfl, Below.refl _ _⟩
    case round =>
      obtain ⟨k, hk, rfl, hall, hbw⟩ := hrel
      by_cases hlt : k < xs.length
      · obtain ⟨ad, z, rfl, hc, hz⟩ := (h.below hbw).at_ hlt
        have hc2 := hc.2
        have HN := Lib.hid (And.intro hc (And.intro hz (And.intro h ht)))
        clear hc hz h ht
        cases hin : inV z with
        | true =>
          have HI := Lib.hid hin
          clear hin
          go_wp2_with (go_at_call 23; refine (c_isValue HI.out _).mono ?_; rintro e w' ⟨rfl, rfl⟩)
          obtain ⟨hc, hz, h, ht⟩ := HN.out
          go_roundw
          case rel => exact ⟨k + 1, by omega, by go_num, take_all hz HI.out hall.out, hbw⟩
          case measure => simp [intOf]; omega
        | false =>
          have HI := Lib.hid hin
          clear hin
          go_wp2_with (go_at_call 23; refine (c_isValue HI.out _).mono ?_; rintro e w' ⟨rfl, rfl⟩)
          go_ret2
          exact ⟨ret_sb (resL_no (okL_not HN.out.2.1 HI.out)).symm (okL_not HN.out.2.1 HI.out).symm, hbw⟩
      · obtain rfl : k = xs.length := by omega
        have hv : xs.all inV = true := by have := hall.out; rwa [List.take_length] at this
        have HN := Lib.hid (And.intro h (And.intro hv ht))
        clear h hv ht hall
        go_wp2_with fail
        refine (c_impl_listText (HN.out.1.below hbw) HN.out.2.1 h64 (HN.out.2.2.on hbw (Nat.le_refl _))).mono ?_
        rintro e w2 ⟨rfl, hb2⟩
        go_wp2_with fail
        go_ret2
        exact ⟨ret_sb (resL_yes (okL_of HN.out.2.1 h64)).symm (okL_of HN.out.2.1 h64).symm, hbw.trans (hb2.mono hbw.size)⟩
  · have HK := Lib.hid (okL_long h64)
    clear h ht
    go_enter Tryd.func11, Tryd.ntmps11
    go_wp2
    go_ret2
    exact ⟨ret_sb (resL_no HK.out).symm HK.out.symm, Below.refl _ _⟩

set_option maxHeartbeats 4000000 in
theorem walk_ListText (A : Option Addr) (cap : Nat) (xs : List Int) (w : World) (h : RdI w A xs) (ht : Tab w) :
    Calls Tryd.prog 4 #[.slice A xs.length cap] w (RetB true w) := by
  by_cases hs : xs.length ≤ 1048576
  · have HT := Lib.hid ht
    have hbel := Below.refl w.heap.size w
    clear ht
    go_enter Tryd.func4, Tryd.ntmps4
    go_wp2_with fail
    refine (c_toI (h.below hbel) hs).mono ?_
    rintro e wk1 ⟨g1, rfl, hg1, hrow1, hb1⟩
    replace hbel := hbel.trans (hb1.mono hbel.size)
    go_wp2_with fail
    refine (c_spec_ListText hrow1.rd hs).mono ?_
    rintro e w2 ⟨rfl, hb2⟩
    replace hbel := hbel.trans (hb2.mono hbel.size)
    go_wp2_with fail
    refine (c_toI (h.below hbel) hs).mono ?_
    rintro e wk3 ⟨g3, rfl, hg3, hrow3, hb3⟩
    replace hbel := hbel.trans (hb3.mono hbel.size)
    go_wp2_with fail
    refine (c_impl_ListText hrow3.rd hs (HT.out.on hbel (Nat.le_refl _))).mono ?_
    rintro e w4 ⟨rfl, hb4⟩
    replace hbel := hbel.trans (hb4.mono hbel.size)
    have hrow4 := hrow3.below hb4
    generalize resL xs = s
    generalize okL xs = b
    go_wp2_with fail
    refine (c_toI (h.below hbel) hs).mono ?_
    rintro e wk5 ⟨g5, rfl, hg5, hrow5, hb5⟩
    have hbel5 := hbel.trans (hb5.mono hbel.size)
    have hrow6 := (hrow4.below hb5).rd
    go_wp2_with fail
    refine (c_eqI hrow6 hrow5.rd hs).mono ?_
    rintro e w6 ⟨rfl, hb6⟩
    go_wp2_with fail
    go_ret
    exact ⟨rfl, hbel5.trans (hb6.mono hbel5.size)⟩
  · clear h ht
    go_enter Tryd.func4, Tryd.ntmps4
    go_wp2_with fail
    go_ret
    exact ⟨rfl, Below.refl _ _⟩

end Go.Proofs.YtdngnfohcdamfaaDoor
