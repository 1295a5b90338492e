/-
  ReadList: the program's side, the marks, the walk. No condition but the tables'.
-/
import Derived.Test.YtdngnfohcdamfaaDoorDm
set_option linter.unusedVariables false
namespace Go.Proofs.YtdngnfohcdamfaaDoor
open Go.RowKit Go.Proofs.YtdngnfohcdamfaaDoor.Fl

/-- bytealg.MaxLen holds some number. -/
def Mx (w : World) : Prop := ∃ m, Cel w ⟨5, 0, none⟩ (.int .i64 m)
theorem Mx.on {B : Nat} {w w' : World} (h : Mx w) (hb : Below B w w') (hB : w.heap.size ≤ B) : Mx w' := by
  obtain ⟨m, hm⟩ := h; exact ⟨m, hm.below (hb.mono hB)⟩

/-- The program's pieces: none for "none". -/
def words (s : ByteArray) : List ByteArray := if isNone s = true then [] else pieces s
theorem words_none {s : ByteArray} (h : isNone s = true) : words s = [] := if_pos h
theorem words_some {s : ByteArray} (h : isNone s = false) : words s = pieces s := if_neg (by rw [h]; decide)
theorem words_size {s p : ByteArray} (h : p ∈ words s) : p.size ≤ s.size := by
  cases hn : isNone s with
  | true => rw [words_none hn] at h; cases h
  | false => rw [words_some hn] at h; exact piece_size h
theorem resW_ok {s : ByteArray} (h1 : (words s).length ≤ 64) (h2 : OkAll (words s)) : resLs s = some (nums (words s)) := by
  cases hn : isNone s with
  | true => rw [words_none hn]; exact resLs_none hn
  | false => rw [words_some hn] at *; exact resLs_ok hn h1 h2
theorem resW_long {s : ByteArray} (h1 : ¬ (words s).length ≤ 64) : resLs s = none := by
  cases hn : isNone s with
  | true => rw [words_none hn] at h1; exact absurd (Nat.zero_le _) h1
  | false => rw [words_some hn] at *; exact resLs_long hn h1
theorem resW_bad {s p : ByteArray} {k : Nat} (hp : (words s)[k]? = some p) (h2 : (resD p).2 = false) : resLs s = none := by
  cases hn : isNone s with
  | true => rw [words_none hn] at hp; cases hp
  | false => rw [words_some hn] at hp; exact resLs_bad hn hp h2

theorem c_words {w : World} {s : ByteArray} (hs : s.size ≤ 1048576) (hm : Mx w) :
    Calls Tryd.prog 28 #[.string s] w fun e w' => ∃ A cap, e = .returned (.slice A (words s).length cap) ∧ RdS w' A (words s) ∧ Below w.heap.size w w' := by
  cases hn : (s.toList == [110, 111, 110, 101]) with
  | true =>
    have hw := words_none (s := s) hn
    rw [hw]
    clear hw
    go_enter Tryd.func28, Tryd.ntmps28
    go_wp2_with fail
    go_ret
    exact ⟨_, _, rfl, fun i hi => absurd hi (Nat.not_lt_zero _), Below.refl _ _⟩
  | false =>
    have hw := words_some (s := s) hn
    rw [hw]
    obtain ⟨m, hm1, hm2⟩ := hm
    have c := Tryd.strings_Split s ⟨#[44]⟩ m w (by omega) hm2 (by decide)
    rw [split_length, split_pieces] at c
    obtain ⟨ps, hps⟩ : ∃ ps, ps = pieces s := ⟨_, rfl⟩
    rw [← hps] at c ⊢
    clear hw hm2 hps
    go_enter Tryd.func28, Tryd.ntmps28
    go_wp2_with fail
    refine c.mono ?_
    rintro e w1 ⟨rfl, rfl⟩
    go_wp2_with fail
    go_ret
    refine ⟨_, _, rfl, fun i hi => ⟨_, ps[i], rfl, by simp, ?_, by simp [hi]⟩, (Below.refl _ _).alloc (Nat.le_refl _) _⟩
    rw [Addr.add_lit, Nat.zero_add]
    simp [hi]

/-- A row of numbers of one's own, or none. -/
def OwnI (w : World) (B : Nat) (A : Option Addr) (xs : List Int) : Prop := xs = [] ∨ ∃ g, A = some ⟨g, 0, none⟩ ∧ B ≤ g ∧ RowG mkI w g xs.length xs
theorem OwnI.rd {w : World} {B : Nat} {A : Option Addr} {xs : List Int} (h : OwnI w B A xs) : RdI w A xs := by
  rcases h with rfl | ⟨g, rfl, _, hr⟩
  · exact rd_nil
  · exact hr.rd
theorem OwnI.below {w w' : World} {B : Nat} {A : Option Addr} {xs : List Int} (h : OwnI w B A xs) (hb : Below w.heap.size w w') : OwnI w' B A xs := by
  rcases h with h | ⟨g, h1, h2, hr⟩
  · exact Or.inl h
  · exact Or.inr ⟨g, h1, h2, hr.below hb⟩
def RetOwn (o : Option (List Int)) (w : World) (e : Ending) (w' : World) : Prop :=
  ∃ A cap, e = .returned (.tuple #[.slice A (o.getD []).length cap, .bool o.isSome]) ∧ OwnI w' w.heap.size A (o.getD []) ∧ Below w.heap.size w w'
theorem retOwn_none (w : World) {w' : World} (hb : Below w.heap.size w w') : RetOwn none w (.returned (.tuple #[.slice none 0 0, .bool false])) w' :=
  ⟨none, 0, rfl, Or.inl rfl, hb⟩
theorem row_nums {w : World} {g k : Nat} {ps : List ByteArray} (h : RowG (fun p => mkI (resD p).1) w g k ps) : RowG mkI w g k (nums ps) := by
  refine ⟨h.lt, fun j hj => ?_, h.frozen⟩
  rw [nums_length] at hj
  obtain ⟨v, h1, h2⟩ := h.cell j hj
  refine ⟨v, h1, fun hk => ?_⟩
  obtain ⟨x, h3, rfl⟩ := h2 hk
  exact ⟨_, nums_at h3, rfl⟩

set_option maxRecDepth 20000 in
set_option maxHeartbeats 4000000 in
theorem c_impl_ReadList {w : World} {s : ByteArray} (hs : s.size ≤ 1048576) (ht : Tab w) (he : Errs w) (hm : Mx w) :
    Calls Tryd.prog 16 #[.string s] w (RetOwn (resLs s) w) := by
  have cw := c_words hs hm
  have hwz : ∀ p ∈ words s, p.size ≤ 1048576 := fun p hp => Nat.le_trans (words_size hp) hs
  obtain ⟨ps, hps⟩ : ∃ ps, ps = words s := ⟨_, rfl⟩
  obtain ⟨o, ho⟩ : ∃ o, o = resLs s := ⟨_, rfl⟩
  rw [← hps] at cw hwz
  rw [← ho]
  have HO := Lib.hid (And.intro ho (And.intro hps (And.intro hwz (And.intro ht he))))
  clear ho hps hwz ht he hm
  go_enter Tryd.func16, Tryd.ntmps16
  go_wp2_with fail
  refine cw.mono ?_
  rintro e w1 ⟨A, cap, rfl, hrd, hb1⟩
  clear cw
  have hsz1 := hb1.size
  by_cases h64 : ps.length ≤ 64
  · have h64' : ¬ (64 < ((ps.length : Nat) : Int)) := by omega
    obtain ⟨i0, hi, hz0, hz1, hz2⟩ := info_parts info2
    have hmk := run_make (P := Tryd.prog) w1 24 2 i0 (.int .i64 0) Tryd.underlying24 hi hz0 .i64 .i64 ps.length ps.length (by omega) (Int.le_refl _) (by rw [hz2]; omega) (by omega)
    rw [hz1] at hmk
    simp only [Int.toNat_natCast] at hmk
    change _ = Result.ok _ (w1.alloc (.cells (madeCells #[.int .i64 0] (ps.length * 1)) 2)) at hmk
    have hr0 := RowG.new (fun p => mkI (resD p).1) w1 ps (.int .i64 0) 2
    have hb0 : Below w1.heap.size w1 (w1.alloc (.cells (madeCells #[.int .i64 0] (ps.length * 1)) 2)) := (Below.refl _ _).alloc (Nat.le_refl _) _
    generalize hW : w1.alloc (.cells (madeCells #[.int .i64 0] (ps.length * 1)) 2) = W at *
    clear hW hi hz0 hz1 hz2
    have H1 := Lib.hid (And.intro hr0 (And.intro hb0 (And.intro hrd hb1)))
    clear hr0 hb0 hrd hb1
    go_wp2_with fail
    clear hmk
    go_loopw [20] (fun i wr => ∃ k : Nat, k ≤ ps.length ∧ i = .int .i64 k ∧ RowG (fun p => mkI (resD p).1) wr w1.heap.size k ps ∧ Hid (OkAll (ps.take k)) ∧ Below w1.heap.size w1 wr) (fun i _ => ps.length - (intOf i).toNat)
    case atStart => exact ⟨0, Nat.zero_le _, rfl, H1.out.1, fun p hp => by simp at hp, H1.out.2.1⟩
    case round =>
      obtain ⟨k, hk, rfl, hrow, hok, hbw⟩ := hrel
      by_cases hlt : k < ps.length
      · obtain ⟨ad, p, rfl, hc, hp⟩ := (H1.out.2.2.1.below hbw).at_ hlt
        have hc2 := hc.2
        have hbb := H1.out.2.2.2.trans (hbw.mono hsz1)
        have c := c_impl_ReadDecimal (w := wr) (HO.out.2.2.1 p (List.mem_of_getElem? hp)) (HO.out.2.2.2.1.on hbb (Nat.le_refl _)) (HO.out.2.2.2.2.on hbb (Nat.le_refl _))
        have HN := Lib.hid (And.intro hrow (And.intro hbw (And.intro hp hbb)))
        obtain ⟨r, hr⟩ : ∃ r, r = resD p := ⟨_, rfl⟩
        rw [← hr] at c
        have HR := Lib.hid hr
        obtain ⟨z, b⟩ := r
        clear hrow hbw hc hp hr hbb
        cases b with
        | true =>
          go_wp2_with fail
          refine c.mono ?_
          rintro e w2 ⟨rfl, hb2⟩
          have hrow2 := HN.out.1.below hb2
          obtain ⟨z0, hd, _⟩ := hrow2.cell k hlt
          have hf := hrow2.frozen k
          have HM := Lib.hid hrow2
          clear hrow2
          go_wp2_with fail
          have hstep := HM.out.step (mk := fun p => mkI (resD p).1) hlt HN.out.2.2.1
          rw [show (resD p).1 = z from by rw [← HR.out]] at hstep
          go_roundw
          case rel => exact ⟨k + 1, by omega, by go_num, hstep, ok_take HN.out.2.2.1 hok.out (by rw [← HR.out]), (HN.out.2.1.trans (hb2.mono HN.out.2.1.size)).setCell (Nat.le_refl _) _⟩
          case measure => simp [intOf]; omega
        | false =>
          go_wp2_with (go_at_call 14; refine c.mono ?_; rintro e w2 ⟨rfl, hb2⟩)
          go_ret2
          rw [HO.out.1, resW_bad (by rw [← HO.out.2.1]; exact HN.out.2.2.1) (by rw [← HR.out])]
          exact retOwn_none _ (HN.out.2.2.2.trans (hb2.mono HN.out.2.2.2.size))
      · have hkk : k = ps.length := by omega
        have hok2 := okAll_of hkk hok.out
        subst hkk
        have HN := Lib.hid (And.intro hrow (And.intro hok2 hbw))
        clear hrow hok2 hok hbw
        go_wp2_with fail
        go_ret2
        rw [HO.out.1, resW_ok (by rw [← HO.out.2.1]; exact h64) (by rw [← HO.out.2.1]; exact HN.out.2.1), ← HO.out.2.1]
        refine ⟨some ⟨w1.heap.size, 0, none⟩, ps.length, ?_, Or.inr ⟨w1.heap.size, rfl, hsz1, ?_⟩, H1.out.2.2.2.trans (HN.out.2.2.mono hsz1)⟩
        · rw [show (some (nums ps)).getD [] = nums ps from rfl, nums_length]; rfl
        · rw [show (some (nums ps)).getD [] = nums ps from rfl, nums_length]; exact row_nums HN.out.1
  · have h64' : 64 < ((ps.length : Nat) : Int) := by omega
    go_wp2_with fail
    go_ret2
    rw [HO.out.1, resW_long (by rw [← HO.out.2.1]; exact h64)]
    exact retOwn_none _ hb1

/-! ### the marks -/
def marks (n : Nat) : List Int := (List.range n).map fun i : Nat => 1 + (i : Int)
theorem marks_length (n : Nat) : (marks n).length = n := by simp [marks]
theorem marks_at {n k : Nat} (h : k < n) : (marks n)[k]? = some (1 + (k : Int)) := by simp [marks, h]

theorem row_other {w : World} {g k : Nat} {xs ys : List Int} (hl : xs.length = ys.length) (h : RowG mkI w g k xs) : RowG mkI w g 0 ys :=
  ⟨h.lt, fun j hj => by
    obtain ⟨v, h1, _⟩ := h.cell j (by omega)
    exact ⟨v, h1, fun c => absurd c (Nat.not_lt_zero _)⟩, h.frozen⟩

set_option maxHeartbeats 1000000 in
theorem c_mark {w : World} {B : Nat} {A : Option Addr} {xs : List Int} {cap n : Nat} (h : OwnI w B A xs) (hn : n = xs.length) (h64 : n ≤ 1048576) :
    Calls Tryd.prog 17 #[.slice A n cap, .int .i64 1] w fun e w' => e = .returned (.int .i64 (1 + (n : Int))) ∧ OwnI w' B A (marks n) ∧ Below B w w' := by
  rcases h with rfl | ⟨g, rfl, hBg, hrow⟩
  · subst hn
    go_enter Tryd.func17, Tryd.ntmps17
    go_wp2
    go_loopw [1, 5] (fun m i wr => m = .int .i64 1 ∧ i = .int .i64 0 ∧ wr = w) (fun _ i _ => 0)
    case atStart => exact ⟨rfl, rfl, rfl⟩
    case round =>
      obtain ⟨rfl, rfl, rfl⟩ := hrel
      go_wp2
      go_ret
      exact ⟨rfl, Or.inl rfl, Below.refl _ _⟩
  · have h0 : RowG mkI w g 0 (marks n) := row_other (by rw [marks_length]; exact hn.symm) hrow
    have hml := marks_length n
    obtain ⟨ms, hms⟩ : ∃ ms, ms = marks n := ⟨_, rfl⟩
    rw [← hms] at h0 hml ⊢
    have HS := Lib.hid (And.intro h0 hms)
    clear hrow h0 hms hn
    go_enter Tryd.func17, Tryd.ntmps17
    go_wp2
    go_loopw [1, 5] (fun m i wr => ∃ k : Nat, k ≤ n ∧ i = .int .i64 k ∧ m = .int .i64 (1 + (k : Int)) ∧ RowG mkI wr g k ms ∧ Below g w wr) (fun _ i _ => n - (intOf i).toNat)
    case atStart => exact ⟨0, Nat.zero_le _, rfl, rfl, HS.out.1, Below.refl _ _⟩
    case round =>
      obtain ⟨k, hk, rfl, rfl, hm, hbw⟩ := hrel
      by_cases hlt : k < n
      · obtain ⟨z0, hd, _⟩ := hm.cell k (by omega)
        have hf := hm.frozen k
        have HN := Lib.hid hm
        clear hm
        go_wp2
        have hm := HN.out
        go_roundw
        case rel => exact ⟨k + 1, by omega, by go_num, by go_num, hm.step (by omega) (by rw [HS.out.2]; exact marks_at hlt), hbw.setCell (Nat.le_refl _) _⟩
        case measure => simp [intOf]; omega
      · obtain rfl : k = n := by omega
        have HN := Lib.hid hm
        clear hm
        go_wp2
        go_ret
        exact ⟨rfl, Or.inr ⟨g, rfl, hBg, by rw [hml]; exact HN.out⟩, hbw.mono hBg⟩

set_option maxHeartbeats 1000000 in
theorem c_held {w : World} {A : Option Addr} {cap n : Nat} (h : RdI w A (marks n)) (h64 : n ≤ 1048576) :
    Calls Tryd.prog 18 #[.slice A n cap, .int .i64 1] w fun e w' => e = .returned (.int .i64 (1 + (n : Int))) ∧ Below w.heap.size w w' := by
  go_enter Tryd.func18, Tryd.ntmps18
  go_wp2
  go_loopw [1, 5] (fun m i wr => ∃ k : Nat, k ≤ n ∧ i = .int .i64 k ∧ m = .int .i64 (1 + (k : Int)) ∧ Below w.heap.size w wr) (fun _ i _ => n - (intOf i).toNat)
  case atStart => exact ⟨0, Nat.zero_le _, rfl, rfl, Below.refl _ _⟩
  case round =>
    obtain ⟨k, hk, rfl, rfl, hbw⟩ := hrel
    by_cases hlt : k < n
    · obtain ⟨ad, z, rfl, hc, hz⟩ := (h.below hbw).at_ (by rw [marks_length]; exact hlt)
      rw [marks_at hlt] at hz
      obtain rfl := Option.some.inj hz
      have hc2 := hc.2
      have HN := Lib.hid h
      clear h hc hz
      go_wp2
      have h := HN.out
      go_roundw
      case rel => exact ⟨k + 1, by omega, by go_num, by go_num, hbw⟩
      case measure => simp [intOf]; omega
    · obtain rfl : k = n := by omega
      clear h
      go_wp2
      go_ret
      exact ⟨rfl, hbw⟩

set_option maxRecDepth 20000 in
set_option maxHeartbeats 4000000 in
theorem walk_ReadList (s : ByteArray) (_ : s.size ≤ maxLen) (w : World) (h : Tab w ∧ Errs w ∧ Mx w) :
    Calls Tryd.prog 6 #[.string s] w (RetB true w) := by
  by_cases hs : s.size ≤ 1048576
  · have c1 : ∀ w, Calls Tryd.prog 15 #[.string s] w (RetRd (resLs s) w) := fun w => c_spec_ReadList hs
    have c2 : ∀ w1, Below w.heap.size w w1 → Calls Tryd.prog 16 #[.string s] w1 (RetOwn (resLs s) w1) := fun w1 hb => c_impl_ReadList hs (h.1.on hb (Nat.le_refl _)) (h.2.1.on hb (Nat.le_refl _)) (h.2.2.on hb (Nat.le_refl _))
    have hlen : ((resLs s).getD []).length ≤ 64 := by
      cases hr : resLs s with
      | none => exact Nat.zero_le _
      | some xs =>
        have hw : (words s).length ≤ 64 := by
          by_cases c : (words s).length ≤ 64
          · exact c
          · rw [resW_long c] at hr; cases hr
        have ho : OkAll (words s) := by
          intro p hp
          obtain ⟨k, hk⟩ := List.mem_iff_getElem?.1 hp
          cases hb : (resD p).2 with
          | true => rfl
          | false => rw [resW_bad hk hb] at hr; cases hr
        rw [resW_ok hw ho] at hr
        cases hr
        show (nums (words s)).length ≤ 64
        rw [nums_length]; exact hw
    clear h
    generalize resLs s = o at *
    unfold RetRd at c1
    unfold RetOwn at c2
    generalize o.isSome = b at *
    generalize o.getD [] = xs at *
    go_enter Tryd.func6, Tryd.ntmps6
    go_wp2_with fail
    refine (c1 _).mono ?_
    rintro e w1 ⟨A1, cap1, rfl, hrd1, hb1⟩
    go_wp2_with fail
    refine (c2 _ hb1).mono ?_
    rintro e w2 ⟨A2, cap2, rfl, hown2, hb2⟩
    have hB2 := hb1.trans (hb2.mono hb1.size)
    have H2 := Lib.hid (And.intro hrd1 (And.intro hown2 (And.intro hb1 (And.intro hb2 hB2))))
    clear hrd1 hown2 hb1 hb2 hB2
    go_wp2_with fail
    refine (c_eqI H2.out.2.1.rd (H2.out.1.below H2.out.2.2.2.1) (by omega)).mono ?_
    rintro e w3 ⟨rfl, hb3⟩
    go_wp2_with fail
    refine (c_mark (H2.out.2.1.below hb3) rfl (by omega)).mono ?_
    rintro e w4 ⟨rfl, hown4, hb4⟩
    go_wp2_with fail
    refine (c_held hown4.rd (by omega)).mono ?_
    rintro e w5 ⟨rfl, hb5⟩
    have hb35 : Below w1.heap.size w3 w5 := hb4.trans (hb5.mono (Nat.le_trans (Nat.le_trans H2.out.2.2.2.1.size hb3.size) hb4.size))
    have hb15 : Below w1.heap.size w1 w5 := (H2.out.2.2.2.1.trans (hb3.mono H2.out.2.2.2.1.size)).trans hb35
    have hB5 := H2.out.2.2.1.trans (hb15.mono H2.out.2.2.1.size)
    have H5 := Lib.hid (And.intro hown4 (And.intro hb5 (And.intro hb15 hB5)))
    clear hown4 hb5 hb15 hb35 hB5 hb3 hb4
    go_wp2_with fail
    refine (c2 _ H5.out.2.2.2).mono ?_
    rintro e w6 ⟨A6, cap6, rfl, hown6, hb6⟩
    have H6 := Lib.hid (And.intro hown6 hb6)
    clear hown6 hb6
    go_wp2_with fail
    refine (c_eqI H6.out.1.rd ((H2.out.1.below H5.out.2.2.1).below H6.out.2) (by omega)).mono ?_
    rintro e w7 ⟨rfl, hb7⟩
    go_wp2_with fail
    refine (c_held (((H5.out.1.below H5.out.2.1).below H6.out.2).below hb7).rd (by omega)).mono ?_
    rintro e w8 ⟨rfl, hb8⟩
    have hB6 := H5.out.2.2.2.trans (H6.out.2.mono H5.out.2.2.2.size)
    have hB7 := hB6.trans (hb7.mono hB6.size)
    have H8 := Lib.hid (hB7.trans (hb8.mono hB7.size))
    clear hB6 hB7 hb7 hb8
    go_wp2_with fail
    go_ret
    exact ⟨rfl, H8.out⟩
  · clear h
    go_enter Tryd.func6, Tryd.ntmps6
    go_wp2_with fail
    go_ret
    exact ⟨rfl, Below.refl _ _⟩

end Go.Proofs.YtdngnfohcdamfaaDoor
