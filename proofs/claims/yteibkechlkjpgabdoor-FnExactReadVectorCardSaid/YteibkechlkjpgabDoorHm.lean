/-
  ReadNumbers: the reference's numbers. No condition.
-/
import Derived.Test.YteibkechlkjpgabDoorHl
import Derived.Maps.AppendAt
import Derived.Deep.AppendLies
set_option linter.unusedVariables false
namespace Go.Proofs.YteibkechlkjpgabDoor
open Go.RowKit Go.Proofs.YteibkechlkjpgabDoor.Fl

/-! ### plain -/
def rdX (p : ByteArray) : Option (Option Nat) := hexRd p.data.toList
def isNone (s : ByteArray) : Bool := s.toList == [110, 111, 110, 101]
def OkAll (ps : List ByteArray) : Prop := ∀ p ∈ ps, (rdX p).isSome = true
def numsN (ps : List ByteArray) : List (Option Nat) := ps.map fun p => (rdX p).getD none
open Classical in
noncomputable def resNs (s : ByteArray) : Option (List (Option Nat)) :=
  if isNone s = true then some [] else if (pieces s).length ≤ 256 ∧ OkAll (pieces s) then some (numsN (pieces s)) else none
theorem resNs_none {s : ByteArray} (h : isNone s = true) : resNs s = some [] := by rw [resNs, if_pos h]
theorem resNs_ok {s : ByteArray} (h : isNone s = false) (h1 : (pieces s).length ≤ 256) (h2 : OkAll (pieces s)) : resNs s = some (numsN (pieces s)) := by
  rw [resNs, if_neg (by rw [h]; decide), if_pos ⟨h1, h2⟩]
theorem resNs_long {s : ByteArray} (h : isNone s = false) (h1 : ¬ (pieces s).length ≤ 256) : resNs s = none := by
  rw [resNs, if_neg (by rw [h]; decide), if_neg (fun c => h1 c.1)]
theorem resNs_bad {s p : ByteArray} {k : Nat} (h : isNone s = false) (hp : (pieces s)[k]? = some p) (h2 : rdX p = none) : resNs s = none := by
  rw [resNs, if_neg (by rw [h]; decide), if_neg (fun c => by have := c.2 p (List.mem_of_getElem? hp); rw [h2] at this; cases this)]
theorem numsN_length (ps : List ByteArray) : (numsN ps).length = ps.length := by simp [numsN]
theorem numsN_at {ps : List ByteArray} {k : Nat} {p : ByteArray} (h : ps[k]? = some p) : (numsN ps)[k]? = some ((rdX p).getD none) := by simp [numsN, h]
theorem numsN_take {ps : List ByteArray} {k : Nat} {p : ByteArray} {c : Option Nat} (h : ps[k]? = some p) (hc : rdX p = some c) : numsN (ps.take (k + 1)) = numsN (ps.take k) ++ [c] := by
  rw [List.take_add_one, h]; simp [numsN, hc]
theorem ok_take {ps : List ByteArray} {k : Nat} {p : ByteArray} {c : Option Nat} (h : ps[k]? = some p) (hk : OkAll (ps.take k)) (h2 : rdX p = some c) : OkAll (ps.take (k + 1)) := by
  intro q hq
  rw [List.take_add_one, h] at hq
  rcases List.mem_append.1 hq with h1 | h1
  · exact hk q h1
  · simp at h1; subst h1; rw [h2]; rfl
theorem okAll_of {ps : List ByteArray} {k : Nat} (hk : k = ps.length) (h : OkAll (ps.take k)) : OkAll ps := by
  subst hk; rwa [List.take_length] at h
theorem low_bound {l : List UInt8} {m : Nat} (hl : l.length ≤ 8) (h : lowF 0 l = some m) : m < 4294967296 := by
  obtain ⟨_, _, h3⟩ := hexN_of_lowF l.length l m 0 rfl h
  have h4 : 16 ^ l.length ≤ 16 ^ 8 := Nat.pow_le_pow_right (by decide) hl
  rw [Nat.zero_add, Nat.mul_one] at h3
  have h5 : (16 : Nat) ^ 8 = 4294967296 := by decide
  omega
theorem low_step {l : List UInt8} {j m d : Nat} {c : UInt8} (h : lowF 0 (l.take j) = some m) (hc : l[j]? = some c) (hd : lowVal c = some d) : lowF 0 (l.take (j + 1)) = some (16 * m + d) := by
  rw [List.take_add_one, hc, lowF_append, h]
  show lowF m [c] = _
  rw [lowF_cons, hd]; rfl
theorem low_stop {l : List UInt8} {j m : Nat} {c : UInt8} (h : lowF 0 (l.take j) = some m) (hc : l[j]? = some c) (hd : lowVal c = none) : lowF 0 l = none := by
  have hj := (List.getElem?_eq_some_iff.1 hc).1
  have e : l = l.take j ++ c :: l.drop (j + 1) := by
    have e1 := (List.take_append_drop j l).symm
    have e2 : l.drop j = c :: l.drop (j + 1) := by
      rw [List.drop_eq_getElem_cons hj]
      congr 1
      exact (List.getElem?_eq_some_iff.1 hc).2
    rw [e2] at e1
    exact e1
  rw [e, lowF_append, h]
  show lowF m (c :: l.drop (j + 1)) = _
  rw [lowF_cons, hd]; rfl
theorem low_dig {c : UInt8} (h1 : 48 ≤ c.toNat) (h2 : c.toNat ≤ 57) : lowVal c = some (c.toNat - 48) := by rw [lowVal, if_pos ⟨h1, h2⟩]
theorem low_let {c : UInt8} (h1 : 97 ≤ c.toNat) (h2 : c.toNat ≤ 102) : lowVal c = some (c.toNat - 87) := by rw [lowVal, if_neg (by omega), if_pos ⟨h1, h2⟩]
theorem low_not {c : UInt8} (h1 : ¬ (48 ≤ c.toNat ∧ c.toNat ≤ 57)) (h2 : ¬ (97 ≤ c.toNat ∧ c.toNat ≤ 102)) : lowVal c = none := by rw [lowVal, if_neg h1, if_neg h2]

/-- A list that was read comes back; it can be read. -/
def RetRdF (o : Option (List (Option Nat))) (w : World) (e : Ending) (w' : World) : Prop :=
  ∃ A cap, e = .returned (.tuple #[.slice A (o.getD []).length cap, .bool o.isSome]) ∧ RdC w' A (o.getD []) ∧ Below w.heap.size w w'
theorem retRd_none (w : World) {w' : World} (hb : Below w.heap.size w w') : RetRdF none w (.returned (.tuple #[.slice none 0 0, .bool false])) w' :=
  ⟨none, 0, rfl, fun i hi => absurd hi (Nat.not_lt_zero _), hb⟩
theorem rdC_nil {w : World} {A : Option Addr} : RdC w A [] := fun i hi => absurd hi (Nat.not_lt_zero _)
theorem one_cellF (x : Nat) : ∀ u ∈ [Value.float .f32 x], u.oneCell' = true := by
  intro u hu; rw [List.mem_singleton.1 hu]; rfl

/-- The slice v owns floats of the classes cs. -/
def OwnL (w : World) (base : Nat) (v : Value) (cs : List (Option Nat)) : Prop :=
  ∃ xs, w.ownsRow base 28 1 v cs.length xs ∧ ∀ j, j < cs.length → ∃ z, xs[j]? = some (.float .f32 z) ∧ Fv .f32 z (cs.getD j none)

theorem OwnL.below {w w' : World} {base : Nat} {v : Value} {cs : List (Option Nat)} (h : OwnL w base v cs) (hb : Below w.heap.size w w') : OwnL w' base v cs := by
  obtain ⟨xs, h1, h2⟩ := h
  exact ⟨xs, own_below h1 hb, h2⟩

theorem ownL_more {w : World} {base : Nat} {v : Value} {cs ds : List (Option Nat)} {xs ys : List Value} {m : Nat} (hm : m = ds.length) (hown : w.ownsRow base 28 1 v (cs.length + m) (xs ++ ys))
    (hl : xs.length = cs.length) (hx : ∀ j, j < cs.length → ∃ z, xs[j]? = some (.float .f32 z) ∧ Fv .f32 z (cs.getD j none)) (hy : ∀ j, j < ds.length → ∃ z, ys[j]? = some (.float .f32 z) ∧ Fv .f32 z (ds.getD j none)) : OwnL w base v (cs ++ ds) := by
  subst hm
  refine ⟨xs ++ ys, by rw [List.length_append]; exact hown, fun j hj => ?_⟩
  rw [List.length_append] at hj
  by_cases c : j < cs.length
  · obtain ⟨z, h1, h2⟩ := hx j c
    refine ⟨z, by rw [List.getElem?_append_left (by omega)]; exact h1, ?_⟩
    simpa [List.getD_eq_getElem?_getD, List.getElem?_append_left c] using h2
  · obtain ⟨z, h1, h2⟩ := hy (j - cs.length) (by omega)
    refine ⟨z, by rw [List.getElem?_append_right (by omega), hl]; exact h1, ?_⟩
    simpa [List.getD_eq_getElem?_getD, List.getElem?_append_right (by omega : cs.length ≤ j)] using h2

theorem OwnL.len {w : World} {base : Nat} {v : Value} {cs : List (Option Nat)} {xs : List Value} (h : w.ownsRow base 28 1 v cs.length xs) : xs.length = cs.length := by
  have := h.1; omega

/-- As a row. -/
theorem OwnL.row {w : World} {base : Nat} {v : Value} {cs : List (Option Nat)} (h : OwnL w base v cs) (hn : 0 < cs.length) : ∃ g cap, v = .slice (some ⟨g, 0, none⟩) cs.length cap ∧ base ≤ g ∧ Row w g cs.length cs := by
  obtain ⟨xs, h1, h2⟩ := h
  obtain ⟨g, cap, rfl, hb, hlt⟩ := h1.form hn
  refine ⟨g, cap, rfl, hb, hlt, fun j hj => ?_, fun o => h1.frozenAt o⟩
  obtain ⟨z, h3, h4⟩ := h2 j hj
  exact ⟨z, (h1.cellAt j (by omega)).trans h3, fun _ => h4⟩

theorem one_cls {c : Option Nat} {x : Nat} (h : Fv .f32 x c) : ∀ j, j < [c].length → ∃ q, [Value.float .f32 x][j]? = some (.float .f32 q) ∧ Fv .f32 q ([c].getD j none) := by
  intro j hj
  match j, hj with
  | 0, _ => exact ⟨x, rfl, h⟩


theorem OwnL.rd {w : World} {base : Nat} {v : Value} {cs : List (Option Nat)} (h : OwnL w base v cs) : ∃ A cap, v = .slice A cs.length cap ∧ RdC w A cs := by
  by_cases h0 : 0 < cs.length
  · obtain ⟨g, cap, rfl, _, hrow⟩ := h.row h0
    exact ⟨_, cap, rfl, hrow.rd⟩
  · have hc : cs = [] := List.length_eq_zero_iff.1 (by omega)
    subst hc
    obtain ⟨xs, h1, _⟩ := h
    rcases h1.2 with ⟨rfl, _⟩ | ⟨g, cap, cur, rfl, _⟩
    · exact ⟨none, 0, rfl, rdC_nil⟩
    · exact ⟨_, cap, rfl, rdC_nil⟩

theorem c_from {n : Nat} (hn : n < 4294967296) (w : World) :
    Calls Tryd.prog 19 #[.int .i64 n] w fun e w' => e = .returned (.float .f32 n) ∧ Below w.heap.size w w' := by
  have hx := f32from
  have hw := wrap32 hn
  go_enter Tryd.func19, Tryd.ntmps19
  go_wp2
  go_ret
  exact ⟨by first | rfl | (congr 2; omega), Below.refl _ _⟩
theorem c_bits {n : Nat} (hn : n < 4294967296) (w : World) :
    Calls Tryd.prog 20 #[.float .f32 n] w fun e w' => e = .returned (.int .i64 ((bitsN (cls .f32 n) : Nat) : Int)) ∧ Below w.heap.size w w' := by
  have c := l01Bits_spec n (cls .f32 n) (Fv.self (k := .f32) hn) w
  rw [bitsN_eq] at c
  exact c.mono (by rintro e w' ⟨rfl, m, rfl⟩; exact ⟨rfl, below_drewN (Below.refl _ _) _⟩)

set_option maxRecDepth 20000 in
set_option maxHeartbeats 8000000 in
theorem c_l01NRead {w : World} {s : ByteArray} (hs : s.size ≤ 1048576) :
    Calls Tryd.prog 13 #[.string s] w (RetRdF (resNs s) w) := by
  obtain ⟨i0, hi, hz0, hz1, hz2⟩ := info_parts info22
  have HI := Lib.hid (And.intro hi (And.intro hz0 (And.intro hz1 hz2)))
  clear hi hz0 hz1 hz2
  have h00 : OwnL (w.alloc (.cells #[] 28)) w.heap.size (.slice (some ⟨w.heap.size, 0, none⟩) 0 0) [] := ⟨_, World.ownsRow_lit (e := 28) (size := 1) (base := w.heap.size) w #[] 0 (Nat.le_refl _) (Nat.zero_le _) rfl, fun j hj => absurd hj (Nat.not_lt_zero _)⟩
  have H0 := Lib.hid h00
  clear h00
  cases hn : (s.toList == [110, 111, 110, 101]) with
  | true =>
    have HN := Lib.hid hn
    have hr := resNs_none (s := s) hn
    rw [hr]
    clear hr
    go_enter Tryd.func13, Tryd.ntmps13
    go_wp2_with fail
    go_ret2
    exact ⟨_, _, rfl, rdC_nil, (Below.refl _ _).alloc (Nat.le_refl _) _⟩
  | false =>
    have HNo := Lib.hid (show isNone s = false from hn)
    have hpp := pieces_pos s
    obtain ⟨ps, hps⟩ : ∃ ps, ps = pieces s := ⟨_, rfl⟩
    obtain ⟨o, ho⟩ : ∃ o, o = resNs s := ⟨_, rfl⟩
    have cc : ∀ w, Calls Tryd.prog 18 #[.string s, .int .u8 44] w fun e w' => ∃ A cap, e = .returned (.slice A (pieces s).length cap) ∧ RdS w' A (pieces s) ∧ (∀ ad, A = some ad → w.heap.size ≤ ad.block) ∧ Below w.heap.size w w' := fun w => c_l01Cut hs
    rw [← hps] at cc hpp
    rw [← ho]
    have HO := Lib.hid (And.intro ho (And.intro hps True.intro))
    clear ho hps
    go_enter Tryd.func13, Tryd.ntmps13
    go_wp2_with fail
    refine (cc _).mono ?_
    rintro e w1 ⟨A, cap, rfl, hrd, hAb, hb1⟩
    have hb1' : Below w.heap.size w w1 := ((Below.refl _ _).alloc (Nat.le_refl _) _).trans (hb1.mono (by simp))
    have hown1 := H0.out.below hb1
    have hap1 : Apart (.slice (some ⟨w.heap.size, 0, none⟩) 0 0) A := fun ad hA c => by
      have h1 := hAb ad hA
      have h2 : w.heap.size = ad.block := by simpa [Value.ownBlock] using c
      simp at h1; omega
    have hsz1 := hb1'.size
    have H1 := Lib.hid (And.intro hrd (And.intro hb1' (And.intro hown1 hap1)))
    clear hrd hb1 hb1' hown1 cc hAb hap1
    by_cases h64 : ps.length ≤ 256
    · have h64' : ¬ (256 < ((ps.length : Nat) : Int)) := by omega
      go_wp2_with fail
      go_loopw [4, 6] (fun v i wr => ∃ (k : Nat), i = .int .i64 k ∧ k ≤ ps.length ∧ OwnL wr w.heap.size v (numsN (ps.take k)) ∧ Hid (OkAll (ps.take k)) ∧ Below w.heap.size w wr ∧ RdS wr A ps ∧ Apart v A) (fun _ i _ => ps.length - (intOf i).toNat)
      case atStart => exact ⟨0, rfl, Nat.zero_le _, H1.out.2.2.1, fun p hp => by simp at hp, H1.out.2.1, H1.out.1, H1.out.2.2.2⟩
      case round =>
        obtain ⟨k, rfl, hk, hown, hok, hbw, hrd, hap⟩ := hrel
        have hsz := hbw.size
        by_cases hlt : k < ps.length
        · have HRD := Lib.hid (And.intro hrd hap)
          obtain ⟨ad, p, rfl, hc, hp⟩ := hrd.at_ hlt
          have hc2 := hc.2
          have htl : (numsN (ps.take k)).length = k := by rw [numsN_length, List.length_take]; omega
          obtain ⟨xs, hxo, hxc⟩ := hown
          have HN := Lib.hid (And.intro hxo (And.intro hxc (And.intro hbw (And.intro hp htl))))
          clear hxo hxc hbw hc hp hrd hap htl
          by_cases h8 : p.size = 8
          · go_wp2_with fail
            go_loopw [7, 8] (fun vn vk w2 => ∃ (j m : Nat), j ≤ 8 ∧ vk = .int .i64 j ∧ vn = .int .i64 m ∧ Hid (lowF 0 (p.data.toList.take j) = some m) ∧ w2 = wr) (fun _ vk _ => 8 - (intOf vk).toNat)
            case atStart => exact ⟨0, 0, by omega, rfl, rfl, rfl, rfl⟩
            case round =>
              obtain ⟨j, m, hj, rfl, rfl, hm, rfl⟩ := hrel
              have hmb : m < 4294967296 := low_bound (by rw [List.length_take]; omega) hm.out
              by_cases hjl : j < 8
              · have hjs : j < p.size := by omega
                have hby := byte_at hjs
                obtain ⟨b, hbk⟩ : ∃ b, p[j]'hjs = b := ⟨_, rfl⟩
                rw [hbk] at hby
                have hbt : b.toNat < 256 := b.toNat_lt
                have HB := Lib.hid hby
                clear hby
                by_cases hd1 : 48 ≤ b.toNat
                · by_cases hd2 : b.toNat ≤ 57
                  · go_wp2_with fail
                    go_roundw
                    case rel => exact ⟨j + 1, 16 * m + (b.toNat - 48), by omega, by go_num, by (first | rfl | (congr 1; omega)), low_step hm.out HB.out (low_dig hd1 hd2), trivial⟩
                    case measure => simp [intOf]; omega
                  · by_cases hd3 : 97 ≤ b.toNat
                    · by_cases hd4 : b.toNat ≤ 102
                      · go_wp2_with fail
                        go_roundw
                        case rel => exact ⟨j + 1, 16 * m + (b.toNat - 87), by omega, by go_num, by (first | rfl | (congr 1; omega)), low_step hm.out HB.out (low_let hd3 hd4), trivial⟩
                        case measure => simp [intOf]; omega
                      · go_wp2_with fail
                        go_ret2
                        rw [HO.out.1, resNs_bad HNo.out (by rw [← HO.out.2.1]; exact HN.out.2.2.2.1) (hexRd_low (low_stop hm.out HB.out (low_not (by omega) (by omega))))]
                        exact retRd_none _ HN.out.2.2.1
                    · go_wp2_with fail
                      go_ret2
                      rw [HO.out.1, resNs_bad HNo.out (by rw [← HO.out.2.1]; exact HN.out.2.2.2.1) (hexRd_low (low_stop hm.out HB.out (low_not (by omega) (by omega))))]
                      exact retRd_none _ HN.out.2.2.1
                · go_wp2_with fail
                  go_ret2
                  rw [HO.out.1, resNs_bad HNo.out (by rw [← HO.out.2.1]; exact HN.out.2.2.2.1) (hexRd_low (low_stop hm.out HB.out (low_not (by omega) (by omega))))]
                  exact retRd_none _ HN.out.2.2.1
              · obtain rfl : j = 8 := by omega
                have hmf : lowF 0 p.data.toList = some m := by
                  have := hm.out
                  rwa [List.take_of_length_le (by rw [size_list]; omega)] at this
                have cF : ∀ w, Calls Tryd.prog 19 #[.int .i64 m] w fun e w' => e = .returned (.float .f32 m) ∧ Below w.heap.size w w' := fun w => c_from hmb w
                have cB : ∀ w, Calls Tryd.prog 20 #[.float .f32 m] w fun e w' => e = .returned (.int .i64 ((bitsN (cls .f32 m) : Nat) : Int)) ∧ Below w.heap.size w w' := fun w => c_bits hmb w
                have hfv : Fv .f32 m (cls .f32 m) := Fv.self (k := .f32) hmb
                obtain ⟨t, ht⟩ : ∃ t, t = bitsN (cls .f32 m) := ⟨_, rfl⟩
                rw [← ht] at cB
                have HF := Lib.hid (And.intro hmf (And.intro hfv ht))
                clear hmf hfv ht hm
                by_cases hte : t = m
                · subst hte
                  have hX : rdX p = some (cls .f32 t) := hexRd_yes h8 HF.out.1 HF.out.2.2.symm
                  have HX := Lib.hid hX
                  clear hX
                  go_wp2_with (first
                    | (go_at_call 19; refine (cF _).mono ?_; rintro e w2 ⟨rfl, hb2⟩)
                    | (go_at_call 20; refine (cB _).mono ?_; rintro e w3 ⟨rfl, hb3⟩)
                    | (at_builtin; refine wpList_append_own_at _ rfl _ _ 22 rfl w.heap.size 28 i0 (.float .f32 0) 1 4 Tryd.underlying22 HI.out.1 HI.out.2.1 HI.out.2.2.1 HI.out.2.2.2 rfl (by decide) _ (numsN (ps.take k)).length xs rfl ((own_below HN.out.1 (hb2.trans (hb3.mono hb2.size))).alloc _) ⟨w3.heap.size, 0, none⟩ 1 1 [.float .f32 t] rfl rfl (cell_one_new _ _ _) (one_cellF _) ?b3 ?b4 ?b5 ?_))
                  case b3 => rw [HN.out.2.2.2.2]; unfold maxLen; omega
                  case b4 => rw [HN.out.2.2.2.2]; omega
                  case b5 => have := hb2.size; have := hb3.size; first | omega | (simp; omega)
                  intro v3 w4 hown hgrow _ hat
                  have hb23 := hb2.trans (hb3.mono hb2.size)
                  have hbw3 := HN.out.2.2.1.trans (hb23.mono HN.out.2.2.1.size)
                  have hS3 := hb23.size
                  have hbw4 : Below w.heap.size w w4 := (hbw3.alloc hbw3.size _).grown hgrow (by simp; omega) (own_block HN.out.1)
                  have hrd3 := (HRD.out.1.below hb23).below ((Below.refl _ w3).alloc (Nat.le_refl _) (.cells #[.float .f32 t] 28))
                  have hrd4 : RdS w4 (some ad) ps := hrd3.grown hgrow HRD.out.2
                  have hap4 : Apart v3 (some ad) := apart_next hrd3 hpp HRD.out.2 hat (by simp)
                  have hpush : OwnL w4 w.heap.size v3 (numsN (ps.take k) ++ [cls .f32 t]) := ownL_more (ds := [cls .f32 t]) rfl hown (OwnL.len HN.out.1) HN.out.2.1 (one_cls HF.out.2.1)
                  rw [← numsN_take HN.out.2.2.2.1 HX.out] at hpush
                  have HK := Lib.hid (And.intro hpush (And.intro hbw4 (And.intro hrd4 hap4)))
                  clear hown hgrow hbw3 hbw4 hpush hrd3 hrd4 hap4 hat hb2 hb3 hb23
                  go_wp2_with fail
                  go_roundw
                  case rel => exact ⟨k + 1, by go_num, by omega, HK.out.1, ok_take HN.out.2.2.2.1 hok.out HX.out, HK.out.2.1, HK.out.2.2.1, HK.out.2.2.2⟩
                  case measure => simp [intOf]; omega
                · have hX : rdX p = none := hexRd_bits HF.out.1 (fun c => hte (by rw [HF.out.2.2, c]))
                  have hne : (((t : Nat) : Int) == ((m : Nat) : Int)) = false := beq_eq_false_iff_ne.2 (by omega)
                  have HX := Lib.hid hX
                  clear hX
                  go_wp2_with (first
                    | (go_at_call 19; refine (cF _).mono ?_; rintro e w2 ⟨rfl, hb2⟩)
                    | (go_at_call 20; refine (cB _).mono ?_; rintro e w3 ⟨rfl, hb3⟩))
                  go_ret2
                  rw [HO.out.1, resNs_bad HNo.out (by rw [← HO.out.2.1]; exact HN.out.2.2.2.1) HX.out]
                  exact retRd_none _ (HN.out.2.2.1.trans ((hb2.trans (hb3.mono hb2.size)).mono HN.out.2.2.1.size))
          · have hX : rdX p = none := hexRd_len h8
            have HX := Lib.hid hX
            clear hX
            go_wp2_with fail
            go_ret2
            rw [HO.out.1, resNs_bad HNo.out (by rw [← HO.out.2.1]; exact HN.out.2.2.2.1) HX.out]
            exact retRd_none _ HN.out.2.2.1
        · have hkk : k = ps.length := by omega
          have hok2 := okAll_of hkk hok.out
          subst hkk
          rw [List.take_length] at hown
          obtain ⟨A2, cap2, rfl, hrd2⟩ := hown.rd
          have HN := Lib.hid (And.intro hrd2 hok2)
          clear hown hrd2 hok2 hrd hap hok
          go_wp2_with fail
          go_ret2
          rw [HO.out.1, resNs_ok HNo.out (by rw [← HO.out.2.1]; exact h64) (by rw [← HO.out.2.1]; exact HN.out.2), ← HO.out.2.1]
          exact ⟨A2, cap2, rfl, HN.out.1, hbw⟩
    · have h64' : 256 < ((ps.length : Nat) : Int) := by omega
      go_wp2_with fail
      go_ret2
      rw [HO.out.1, resNs_long HNo.out (by rw [← HO.out.2.1]; exact h64)]
      exact retRd_none _ H1.out.2.1

theorem c_spec_ReadNumbers {w : World} {s : ByteArray} (hs : s.size ≤ 1048576) :
    Calls Tryd.prog 5 #[.string s] w (RetRdF (resNs s) w) := by
  have c := c_l01NRead (w := w) hs
  generalize resNs s = r at *
  go_enter Tryd.func5, Tryd.ntmps5
  go_wp2_with fail
  refine c.mono ?_
  rintro e w1 ⟨A, cap, rfl, hrd, hb1⟩
  go_wp2_with fail
  go_ret2
  exact ⟨A, cap, rfl, hrd, hb1⟩

end Go.Proofs.YteibkechlkjpgabDoor
