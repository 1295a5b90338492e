/-
  ReadNumbers: the program's side, the marks. No condition but the tables' and the variables'.
-/
import Derived.Test.YteibkechlkjpgabDoorHm
set_option linter.unusedVariables false
namespace Go.Proofs.YteibkechlkjpgabDoor
open Go.RowKit Go.Proofs.YteibkechlkjpgabDoor.Fl

/-- bytealg.MaxLen holds some number. -/
def Mx (w : World) : Prop := ∃ m, Cel w ⟨3, 0, none⟩ (.int .i64 m)
theorem Mx.on {B : Nat} {w w' : World} (h : Mx w) (hb : Below B w w') (hB : w.heap.size ≤ B) : Mx w' := by
  obtain ⟨m, hm⟩ := h; exact ⟨m, hm.below (hb.mono hB)⟩

/-- The program's pieces: none for "none". -/
def words (s : ByteArray) : List ByteArray := if isNone s = true then [] else pieces s
theorem words_none {s : ByteArray} (h : isNone s = true) : words s = [] := if_pos h
theorem words_some {s : ByteArray} (h : isNone s = false) : words s = pieces s := if_neg (by rw [h]; decide)
theorem words_size {s p : ByteArray} (h : p ∈ words s) : p.size ≤ s.size := by
  cases hn : isNone s with
  | true => rw [words_none hn] at h; cases h
  | false => rw [words_some hn] at h; exact piece_size h
theorem resW_ok {s : ByteArray} (h1 : (words s).length ≤ 256) (h2 : OkAll (words s)) : resNs s = some (numsN (words s)) := by
  cases hn : isNone s with
  | true => rw [words_none hn]; exact resNs_none hn
  | false => rw [words_some hn] at *; exact resNs_ok hn h1 h2
theorem resW_long {s : ByteArray} (h1 : ¬ (words s).length ≤ 256) : resNs s = none := by
  cases hn : isNone s with
  | true => rw [words_none hn] at h1; exact absurd (Nat.zero_le _) h1
  | false => rw [words_some hn] at *; exact resNs_long hn h1
theorem resW_bad {s p : ByteArray} {k : Nat} (hp : (words s)[k]? = some p) (h2 : rdX p = none) : resNs s = none := by
  cases hn : isNone s with
  | true => rw [words_none hn] at hp; cases hp
  | false => rw [words_some hn] at hp; exact resNs_bad hn hp h2
theorem resNs_len (s : ByteArray) : ((resNs s).getD []).length ≤ 256 := by
  cases hr : resNs s with
  | none => exact Nat.zero_le _
  | some xs =>
    have hw : (words s).length ≤ 256 := by
      by_cases c : (words s).length ≤ 256
      · exact c
      · rw [resW_long c] at hr; cases hr
    have ho : OkAll (words s) := by
      intro p hp
      obtain ⟨k, hk⟩ := List.mem_iff_getElem?.1 hp
      cases hb : rdX p with
      | some c => rfl
      | none => rw [resW_bad hk hb] at hr; cases hr
    rw [resW_ok hw ho] at hr
    cases hr
    show (numsN (words s)).length ≤ 256
    rw [numsN_length]; exact hw
theorem numsN_getD {ps : List ByteArray} {k : Nat} {p : ByteArray} {c : Option Nat} (h : ps[k]? = some p) (hc : rdX p = some c) : (numsN ps).getD k none = c := by
  rw [List.getD_eq_getElem?_getD, numsN_at h, hc]; rfl

theorem c_words {w : World} {s : ByteArray} (hs : s.size ≤ 1048576) (hm : Mx w) :
    Calls Tryd.prog 14 #[.string s] w fun e w' => ∃ A cap, e = .returned (.slice A (words s).length cap) ∧ RdS w' A (words s) ∧ Below w.heap.size w w' := by
  cases hn : (s.toList == [110, 111, 110, 101]) with
  | true =>
    have hw := words_none (s := s) hn
    rw [hw]
    clear hw
    go_enter Tryd.func14, Tryd.ntmps14
    go_wp2_with fail
    go_ret
    exact ⟨_, _, rfl, fun i hi => absurd hi (Nat.not_lt_zero _), Below.refl _ _⟩
  | false =>
    have hw := words_some (s := s) hn
    rw [hw]
    obtain ⟨m, hm1, hm2⟩ := hm
    have c := Tryd.strings_Split s ⟨#[44]⟩ m w (by omega) hm2 (by decide)
    rw [split_length, split_pieces] at c
    obtain ⟨ps, hps⟩ : ∃ ps, ps = pieces s := ⟨_, rfl⟩
    rw [← hps] at c ⊢
    clear hw hm2 hps
    go_enter Tryd.func14, Tryd.ntmps14
    go_wp2_with fail
    refine c.mono ?_
    rintro e w1 ⟨rfl, rfl⟩
    go_wp2_with fail
    go_ret
    refine ⟨_, _, rfl, fun i hi => ⟨_, ps[i], rfl, by simp, ?_, by simp [hi]⟩, (Below.refl _ _).alloc (Nat.le_refl _) _⟩
    rw [Addr.add_lit, Nat.zero_add]
    simp [hi]


theorem c_fromHex_yes {w : World} {s : ByteArray} {c : Option Nat} (hs : s.size ≤ 1048576) (hd : Db w) (he : Errs w) (h : rdX s = some c) :
    Calls Tryd.prog 15 #[.string s] w fun e w' => (∃ x, e = .returned (.tuple #[.float .f32 x, .bool true]) ∧ Fv .f32 x c) ∧ Below w.heap.size w w' :=
  (c_fromHex hs hd he).mono (by
    have h2 : hexRd s.data.toList = some c := h
    rintro e w' ⟨⟨x, rfl, hx⟩, hb⟩
    exact ⟨⟨x, by rw [h2]; rfl, hx c h2⟩, hb⟩)
theorem c_fromHex_no {w : World} {s : ByteArray} (hs : s.size ≤ 1048576) (hd : Db w) (he : Errs w) (h : rdX s = none) :
    Calls Tryd.prog 15 #[.string s] w fun e w' => (∃ x, e = .returned (.tuple #[.float .f32 x, .bool false])) ∧ Below w.heap.size w w' :=
  (c_fromHex hs hd he).mono (by
    have h2 : hexRd s.data.toList = none := h
    rintro e w' ⟨⟨x, rfl, hx⟩, hb⟩
    exact ⟨⟨x, by rw [h2]; rfl⟩, hb⟩)

/-- A row of floats of one's own, or none. -/
def OwnF (w : World) (B : Nat) (A : Option Addr) (cs : List (Option Nat)) : Prop := cs = [] ∨ ∃ g, A = some ⟨g, 0, none⟩ ∧ B ≤ g ∧ Row w g cs.length cs
theorem OwnF.rd {w : World} {B : Nat} {A : Option Addr} {cs : List (Option Nat)} (h : OwnF w B A cs) : RdC w A cs := by
  rcases h with rfl | ⟨g, rfl, _, hr⟩
  · exact rdC_nil
  · exact hr.rd
theorem OwnF.below {w w' : World} {B : Nat} {A : Option Addr} {cs : List (Option Nat)} (h : OwnF w B A cs) (hb : Below w.heap.size w w') : OwnF w' B A cs := by
  rcases h with h | ⟨g, h1, h2, hr⟩
  · exact Or.inl h
  · exact Or.inr ⟨g, h1, h2, hr.below hb⟩
def RetOwnF (o : Option (List (Option Nat))) (w : World) (e : Ending) (w' : World) : Prop :=
  ∃ A cap, e = .returned (.tuple #[.slice A (o.getD []).length cap, .bool o.isSome]) ∧ OwnF w' w.heap.size A (o.getD []) ∧ Below w.heap.size w w'
theorem retOwnF_none (w : World) {w' : World} (hb : Below w.heap.size w w') : RetOwnF none w (.returned (.tuple #[.slice none 0 0, .bool false])) w' :=
  ⟨none, 0, rfl, Or.inl rfl, hb⟩

set_option maxRecDepth 20000 in
set_option maxHeartbeats 4000000 in
theorem c_impl_ReadNumbers {w : World} {s : ByteArray} (hs : s.size ≤ 1048576) (ht : Db w) (he : Errs w) (hm : Mx w) :
    Calls Tryd.prog 6 #[.string s] w (RetOwnF (resNs s) w) := by
  have cw := c_words hs hm
  have hwz : ∀ p ∈ words s, p.size ≤ 1048576 := fun p hp => Nat.le_trans (words_size hp) hs
  obtain ⟨ps, hps⟩ : ∃ ps, ps = words s := ⟨_, rfl⟩
  obtain ⟨o, ho⟩ : ∃ o, o = resNs s := ⟨_, rfl⟩
  rw [← hps] at cw hwz
  rw [← ho]
  have HO := Lib.hid (And.intro ho (And.intro hps (And.intro hwz (And.intro ht he))))
  clear ho hps hwz ht he hm
  go_enter Tryd.func6, Tryd.ntmps6
  go_wp2_with fail
  refine cw.mono ?_
  rintro e w1 ⟨A, cap, rfl, hrd, hb1⟩
  clear cw
  have hsz1 := hb1.size
  by_cases h64 : ps.length ≤ 256
  · have h64' : ¬ (256 < ((ps.length : Nat) : Int)) := by omega
    have hcl := numsN_length ps
    obtain ⟨i0, hi, hz0, hz1, hz2⟩ := info_parts info22
    have hmk := run_make (P := Tryd.prog) w1 22 28 i0 (.float .f32 0) Tryd.underlying22 hi hz0 .i64 .i64 ps.length ps.length (by omega) (Int.le_refl _) (by rw [hz2]; omega) (by omega)
    rw [hz1] at hmk
    simp only [Int.toNat_natCast] at hmk
    change _ = Result.ok _ (w1.alloc (.cells (madeCells #[.float .f32 0] (ps.length * 1)) 28)) at hmk
    have hr0 := Row.new w1 (numsN ps) 28
    rw [hcl] at hr0
    have hb0 : Below w1.heap.size w1 (w1.alloc (.cells (madeCells #[.float .f32 0] (ps.length * 1)) 28)) := (Below.refl _ _).alloc (Nat.le_refl _) _
    generalize hW : w1.alloc (.cells (madeCells #[.float .f32 0] (ps.length * 1)) 28) = W at *
    clear hW hi hz0 hz1 hz2
    have H1 := Lib.hid (And.intro hr0 (And.intro hb0 (And.intro hrd (And.intro hb1 hcl))))
    clear hr0 hb0 hrd hb1 hcl
    go_wp2_with fail
    clear hmk
    go_loopw [20] (fun i wr => ∃ k : Nat, k ≤ ps.length ∧ i = .int .i64 k ∧ Row wr w1.heap.size k (numsN ps) ∧ Hid (OkAll (ps.take k)) ∧ Below w1.heap.size w1 wr) (fun i _ => ps.length - (intOf i).toNat)
    case atStart => exact ⟨0, Nat.zero_le _, rfl, H1.out.1, fun p hp => by simp at hp, H1.out.2.1⟩
    case round =>
      obtain ⟨k, hk, rfl, hrow, hok, hbw⟩ := hrel
      by_cases hlt : k < ps.length
      · obtain ⟨ad, p, rfl, hc, hp⟩ := (H1.out.2.2.1.below hbw).at_ hlt
        have hc2 := hc.2
        have hbb := H1.out.2.2.2.1.trans (hbw.mono hsz1)
        have hps := HO.out.2.2.1 p (List.mem_of_getElem? hp)
        have hdb := HO.out.2.2.2.1.on hbb (Nat.le_refl _)
        have her := HO.out.2.2.2.2.on hbb (Nat.le_refl _)
        cases hr : rdX p with
        | some c0 =>
          have c := c_fromHex_yes hps hdb her hr
          have HN := Lib.hid (And.intro hrow (And.intro hbw (And.intro hp (And.intro hbb hr))))
          clear hrow hbw hc hp hr hbb hps hdb her
          go_wp2_with fail
          refine c.mono ?_
          rintro e w2 ⟨⟨x, rfl, hx⟩, hb2⟩
          have hrow2 := HN.out.1.below hb2
          obtain ⟨z0, hd, _⟩ := hrow2.cell k (by rw [H1.out.2.2.2.2]; exact hlt)
          have hf := hrow2.frozen k
          have HM := Lib.hid (And.intro hrow2 hx)
          clear hrow2 hx
          go_wp2_with fail
          have hstep := HM.out.1.step (by rw [H1.out.2.2.2.2]; exact hlt) (by rw [numsN_getD HN.out.2.2.1 HN.out.2.2.2.2]; exact HM.out.2)
          go_roundw
          case rel => exact ⟨k + 1, by omega, by go_num, hstep, ok_take HN.out.2.2.1 hok.out HN.out.2.2.2.2, (HN.out.2.1.trans (hb2.mono HN.out.2.1.size)).setCell (Nat.le_refl _) _⟩
          case measure => simp [intOf]; omega
        | none =>
          have c := c_fromHex_no hps hdb her hr
          have HN := Lib.hid (And.intro hrow (And.intro hbw (And.intro hp (And.intro hbb hr))))
          clear hrow hbw hc hp hr hbb hps hdb her
          go_wp2_with fail
          refine c.mono ?_
          rintro e w2 ⟨⟨x, rfl⟩, hb2⟩
          go_wp2_with fail
          go_ret2
          rw [HO.out.1, resW_bad (by rw [← HO.out.2.1]; exact HN.out.2.2.1) HN.out.2.2.2.2]
          exact retOwnF_none _ (HN.out.2.2.2.1.trans (hb2.mono HN.out.2.2.2.1.size))
      · have hkk : k = ps.length := by omega
        have hok2 := okAll_of hkk hok.out
        subst hkk
        have HN := Lib.hid (And.intro hrow (And.intro hok2 hbw))
        clear hrow hok2 hok hbw
        go_wp2_with fail
        go_ret2
        rw [HO.out.1, resW_ok (by rw [← HO.out.2.1]; exact h64) (by rw [← HO.out.2.1]; exact HN.out.2.1), ← HO.out.2.1]
        refine ⟨some ⟨w1.heap.size, 0, none⟩, ps.length, ?_, Or.inr ⟨w1.heap.size, rfl, hsz1, ?_⟩, H1.out.2.2.2.1.trans (HN.out.2.2.mono hsz1)⟩
        · rw [show (some (numsN ps)).getD [] = numsN ps from rfl, H1.out.2.2.2.2]; rfl
        · rw [show (some (numsN ps)).getD [] = numsN ps from rfl, H1.out.2.2.2.2]; exact HN.out.1
  · have h64' : 256 < ((ps.length : Nat) : Int) := by omega
    go_wp2_with fail
    go_ret2
    rw [HO.out.1, resW_long (by rw [← HO.out.2.1]; exact h64)]
    exact retOwnF_none _ hb1

/-! ### marks -/
theorem fv_int32 (n : Int) : Fv .f32 (FloatKind.f32.nearest n) (some (FloatKind.f32.nearest n)) := by
  refine ⟨?_, cls_write .f32 (.number (n < 0) n.natAbs 0) rfl⟩
  show Ieee.single.nearest _ _ _ < _
  rw [nearest_word]
  exact Ieee.single.word_lt _ (near_lt ..)

/-- The first k of n cells are marked. -/
structure MPart (wr : World) (g k n : Nat) : Prop where
  lt : g < wr.heap.size
  cell : ∀ j, j < n → ∃ z, wr.cell? ⟨g, j, none⟩ = some (.float .f32 z) ∧ (j < k → z = FloatKind.f32.nearest (1 + (j : Int)))
  frozen : ∀ o, wr.frozen? ⟨g, o, none⟩ = false

theorem MPart.below {w w' : World} {g k n : Nat} (h : MPart w g k n) (hb : Below w.heap.size w w') : MPart w' g k n :=
  ⟨Nat.lt_of_lt_of_le h.lt hb.size, fun j hj => by
    obtain ⟨z, h1, h2⟩ := h.cell j hj
    exact ⟨z, (hb.cell (p := ⟨g, j, none⟩) h.lt).trans h1, h2⟩, fun o => (hb.frozen (p := ⟨g, o, none⟩) h.lt).trans (h.frozen o)⟩

theorem MPart.step {wr : World} {g k n : Nat} (h : MPart wr g k n) (hk : k < n) {z : Nat} (hz : z = FloatKind.f32.nearest (1 + (k : Int))) : MPart (wr.setCell ⟨g, k, none⟩ (.float .f32 z)) g (k + 1) n := by
  refine ⟨by simpa using h.lt, fun j hj => ?_, fun o => by simpa using h.frozen o⟩
  by_cases e : j = k
  · subst e
    obtain ⟨z0, h1, _⟩ := h.cell j hj
    exact ⟨z, by go_simp, fun _ => hz⟩
  · obtain ⟨z0, h1, h2⟩ := h.cell j hj
    have hne : (⟨g, k, none⟩ : Addr) ≠ ⟨g, j, none⟩ := by intro c; cases c; exact e rfl
    exact ⟨z0, by rw [← h1]; go_simp, fun hlt => h2 (by omega)⟩

theorem Row.marks {wr : World} {g : Nat} {cs : List (Option Nat)} (h : Row wr g cs.length cs) : MPart wr g 0 cs.length :=
  ⟨h.lt, fun j hj => by
    obtain ⟨z, h1, _⟩ := h.cell j hj
    exact ⟨z, h1, fun c => absurd c (Nat.not_lt_zero _)⟩, h.frozen⟩

set_option maxHeartbeats 4000000 in
theorem c_mark {w : World} {g n cap : Nat} (h : MPart w g 0 n) (hn : n ≤ 1000) :
    Calls Tryd.prog 8 #[.slice (some ⟨g, 0, none⟩) n cap, .int .i64 1] w fun e w' => e = .returned (.int .i64 (1 + (n : Int))) ∧ MPart w' g n n ∧ Below g w w' := by
  go_enter Tryd.func8, Tryd.ntmps8
  go_wp2
  go_loopw [1, 5] (fun m i wr => ∃ k : Nat, k ≤ n ∧ i = .int .i64 k ∧ m = .int .i64 (1 + (k : Int)) ∧ MPart wr g k n ∧ Below g w wr) (fun _ i _ => n - (intOf i).toNat)
  case atStart => exact ⟨0, Nat.zero_le _, rfl, rfl, h, Below.refl _ _⟩
  case round =>
    obtain ⟨k, hk, rfl, rfl, hm, hbw⟩ := hrel
    by_cases hlt : k < n
    · obtain ⟨z0, hd, _⟩ := hm.cell k hlt
      have hf := hm.frozen k
      have HN := Lib.hid hm
      clear hm h
      go_wp2
      have hm := HN.out
      go_roundw
      case rel => exact ⟨k + 1, by omega, by go_num, by go_num, hm.step hlt rfl, hbw.setCell (Nat.le_refl _) _⟩
      case measure => simp [intOf]; omega
    · obtain rfl : k = n := by omega
      have HN := Lib.hid hm
      clear hm h
      go_wp2
      go_ret
      exact ⟨rfl, HN.out, hbw⟩

set_option maxHeartbeats 4000000 in
theorem c_held {w : World} {g n cap : Nat} (h : MPart w g n n) (hn : n ≤ 1000) :
    Calls Tryd.prog 9 #[.slice (some ⟨g, 0, none⟩) n cap, .int .i64 1] w fun e w' => e = .returned (.int .i64 (1 + (n : Int))) ∧ Below w.heap.size w w' := by
  go_enter Tryd.func9, Tryd.ntmps9
  go_wp2
  go_loopw [1, 5] (fun m i wr => ∃ k : Nat, k ≤ n ∧ i = .int .i64 k ∧ m = .int .i64 (1 + (k : Int)) ∧ Below w.heap.size w wr) (fun _ i _ => n - (intOf i).toNat)
  case atStart => exact ⟨0, Nat.zero_le _, rfl, rfl, Below.refl _ _⟩
  case round =>
    obtain ⟨k, hk, rfl, rfl, hbw⟩ := hrel
    by_cases hlt : k < n
    · obtain ⟨z0, hd, hz⟩ := (h.below hbw).cell k hlt
      obtain rfl := hz hlt
      have he : (FloatKind.f32.format.order (FloatKind.f32.nearest (1 + (k : Int))) (FloatKind.f32.nearest (1 + (k : Int))) != some .eq) = false := by
        rw [ord_some (fv_int32 (1 + (k : Int)))]; rfl
      have he2 : (FloatKind.f32.format.order (FloatKind.f32.nearest (1 + (k : Int))) (floatOfInt .f32 (1 + (k : Int))) != some .eq) = false := he
      have HN := Lib.hid h
      clear h
      go_wp2
      have h := HN.out
      go_roundw
      case rel => exact ⟨k + 1, by omega, by go_num, by go_num, hbw⟩
      case measure => simp [intOf]; omega
    · obtain rfl : k = n := by omega
      clear h
      go_wp2
      go_ret
      exact ⟨rfl, hbw⟩


/-- The marks stand, or there is nothing to mark. -/
def MarkedF (w : World) (B : Nat) (A : Option Addr) (n : Nat) : Prop := n = 0 ∨ ∃ g, A = some ⟨g, 0, none⟩ ∧ B ≤ g ∧ MPart w g n n
theorem MarkedF.below {w w' : World} {B : Nat} {A : Option Addr} {n : Nat} (h : MarkedF w B A n) (hb : Below w.heap.size w w') : MarkedF w' B A n := by
  rcases h with h | ⟨g, h1, h2, hr⟩
  · exact Or.inl h
  · exact Or.inr ⟨g, h1, h2, hr.below hb⟩

set_option maxHeartbeats 1000000 in
theorem mark_none {w : World} {A : Option Addr} {cap : Nat} : Calls Tryd.prog 8 #[.slice A 0 cap, .int .i64 1] w fun e w' => e = .returned (.int .i64 1) ∧ w' = w := by
  go_enter Tryd.func8, Tryd.ntmps8
  go_wp2
  go_loopw [1, 5] (fun m i wr => m = .int .i64 1 ∧ i = .int .i64 0 ∧ wr = w) (fun _ i _ => 0)
  case atStart => exact ⟨rfl, rfl, rfl⟩
  case round =>
    obtain ⟨rfl, rfl, rfl⟩ := hrel
    go_wp2
    go_ret
    exact ⟨rfl, rfl⟩
set_option maxHeartbeats 1000000 in
theorem held_none {w : World} {A : Option Addr} {cap : Nat} : Calls Tryd.prog 9 #[.slice A 0 cap, .int .i64 1] w fun e w' => e = .returned (.int .i64 1) ∧ w' = w := by
  go_enter Tryd.func9, Tryd.ntmps9
  go_wp2
  go_loopw [1, 5] (fun m i wr => m = .int .i64 1 ∧ i = .int .i64 0 ∧ wr = w) (fun _ i _ => 0)
  case atStart => exact ⟨rfl, rfl, rfl⟩
  case round =>
    obtain ⟨rfl, rfl, rfl⟩ := hrel
    go_wp2
    go_ret
    exact ⟨rfl, rfl⟩
theorem c_markF {w : World} {B : Nat} {A : Option Addr} {cs : List (Option Nat)} {cap n : Nat} (h : OwnF w B A cs) (hn : n = cs.length) (h64 : n ≤ 1000) :
    Calls Tryd.prog 8 #[.slice A n cap, .int .i64 1] w fun e w' => e = .returned (.int .i64 (1 + (n : Int))) ∧ MarkedF w' B A n ∧ Below B w w' := by
  rcases h with rfl | ⟨g, rfl, hBg, hrow⟩
  · subst hn
    exact mark_none.mono (by rintro e w' ⟨rfl, rfl⟩; exact ⟨rfl, Or.inl rfl, Below.refl _ _⟩)
  · subst hn
    exact (c_mark hrow.marks h64).mono (by rintro e w' ⟨rfl, hm, hb⟩; exact ⟨rfl, Or.inr ⟨g, rfl, hBg, hm⟩, hb.mono hBg⟩)
theorem c_heldF {w : World} {B : Nat} {A : Option Addr} {cap n : Nat} (h : MarkedF w B A n) (h64 : n ≤ 1000) :
    Calls Tryd.prog 9 #[.slice A n cap, .int .i64 1] w fun e w' => e = .returned (.int .i64 (1 + (n : Int))) ∧ Below w.heap.size w w' := by
  rcases h with rfl | ⟨g, rfl, hBg, hm⟩
  · exact held_none.mono (by rintro e w' ⟨rfl, rfl⟩; exact ⟨rfl, Below.refl _ _⟩)
  · exact c_held hm h64

end Go.Proofs.YteibkechlkjpgabDoor
