/-
  ReadList: the reference's numbers. No condition.
-/
import Derived.Test.YtdngnfohcdamfaaDoorDl
import Derived.Maps.AppendAt
set_option linter.unusedVariables false
namespace Go.Proofs.YtdngnfohcdamfaaDoor
open Go.RowKit Go.Proofs.YtdngnfohcdamfaaDoor.Fl

def isNone (s : ByteArray) : Bool := s.toList == [110, 111, 110, 101]
def OkAll (ps : List ByteArray) : Prop := ∀ p ∈ ps, (resD p).2 = true
noncomputable def nums (ps : List ByteArray) : List Int := ps.map fun p => (resD p).1
open Classical in
noncomputable def resLs (s : ByteArray) : Option (List Int) :=
  if isNone s = true then some [] else if (pieces s).length ≤ 64 ∧ OkAll (pieces s) then some (nums (pieces s)) else none
theorem resLs_none {s : ByteArray} (h : isNone s = true) : resLs s = some [] := by rw [resLs, if_pos h]
theorem resLs_ok {s : ByteArray} (h : isNone s = false) (h1 : (pieces s).length ≤ 64) (h2 : OkAll (pieces s)) : resLs s = some (nums (pieces s)) := by
  rw [resLs, if_neg (by rw [h]; decide), if_pos ⟨h1, h2⟩]
theorem resLs_long {s : ByteArray} (h : isNone s = false) (h1 : ¬ (pieces s).length ≤ 64) : resLs s = none := by
  rw [resLs, if_neg (by rw [h]; decide), if_neg (fun c => h1 c.1)]
theorem resLs_bad {s p : ByteArray} {k : Nat} (h : isNone s = false) (hp : (pieces s)[k]? = some p) (h2 : (resD p).2 = false) : resLs s = none := by
  rw [resLs, if_neg (by rw [h]; decide), if_neg (fun c => by have := c.2 p (List.mem_of_getElem? hp); rw [h2] at this; cases this)]
theorem nums_length (ps : List ByteArray) : (nums ps).length = ps.length := by simp [nums]
theorem nums_at {ps : List ByteArray} {k : Nat} {p : ByteArray} (h : ps[k]? = some p) : (nums ps)[k]? = some (resD p).1 := by simp [nums, h]
theorem nums_take {ps : List ByteArray} {k : Nat} {p : ByteArray} (h : ps[k]? = some p) : nums (ps.take (k + 1)) = nums (ps.take k) ++ [(resD p).1] := by
  rw [List.take_add_one, h]; simp [nums]
theorem ok_take {ps : List ByteArray} {k : Nat} {p : ByteArray} (h : ps[k]? = some p) (hk : OkAll (ps.take k)) (h2 : (resD p).2 = true) : OkAll (ps.take (k + 1)) := by
  intro q hq
  rw [List.take_add_one, h] at hq
  rcases List.mem_append.1 hq with h1 | h1
  · exact hk q h1
  · simp at h1; subst h1; exact h2
theorem okAll_of {ps : List ByteArray} {k : Nat} (hk : k = ps.length) (h : OkAll (ps.take k)) : OkAll ps := by
  subst hk; rwa [List.take_length] at h

/-- A list that was read comes back; it can be read. -/
def RetRd (o : Option (List Int)) (w : World) (e : Ending) (w' : World) : Prop :=
  ∃ A cap, e = .returned (.tuple #[.slice A (o.getD []).length cap, .bool o.isSome]) ∧ RdI w' A (o.getD []) ∧ Below w.heap.size w w'
theorem retRd_none (w : World) {w' : World} (hb : Below w.heap.size w w') : RetRd none w (.returned (.tuple #[.slice none 0 0, .bool false])) w' :=
  ⟨none, 0, rfl, fun i hi => absurd hi (Nat.not_lt_zero _), hb⟩
theorem rd_nil {w : World} {A : Option Addr} : RdI w A [] := fun i hi => absurd hi (Nat.not_lt_zero _)

set_option maxHeartbeats 4000000 in
theorem c_l01Numbers {w : World} {s : ByteArray} (hs : s.size ≤ 1048576) :
    Calls Tryd.prog 27 #[.string s] w (RetRd (resLs s) w) := by
  obtain ⟨i0, hi, hz0, hz1, hz2⟩ := info_parts info2
  have HI := Lib.hid (And.intro hi (And.intro hz0 (And.intro hz1 hz2)))
  clear hi hz0 hz1 hz2
  have h00 := World.ownsRow_lit (e := 2) (size := 1) (base := w.heap.size) w #[] 0 (Nat.le_refl _) (Nat.zero_le _) rfl
  have H0 := Lib.hid h00
  clear h00
  cases hn : (s.toList == [110, 111, 110, 101]) with
  | true =>
    have HN := Lib.hid hn
    have hr := resLs_none (s := s) hn
    rw [hr]
    clear hr
    go_enter Tryd.func27, Tryd.ntmps27
    go_wp2_with fail
    go_ret2
    exact ⟨_, _, rfl, rd_nil, (Below.refl _ _).alloc (Nat.le_refl _) _⟩
  | false =>
    have HNo := Lib.hid (show isNone s = false from hn)
    have hpp := pieces_pos s
    have hpz : ∀ p ∈ pieces s, p.size ≤ 1048576 := fun p hp => Nat.le_trans (piece_size hp) hs
    obtain ⟨ps, hps⟩ : ∃ ps, ps = pieces s := ⟨_, rfl⟩
    obtain ⟨o, ho⟩ : ∃ o, o = resLs s := ⟨_, rfl⟩
    have cc : ∀ w, Calls Tryd.prog 34 #[.string s, .int .u8 44] w fun e w' => ∃ A cap, e = .returned (.slice A (pieces s).length cap) ∧ RdS w' A (pieces s) ∧ (∀ ad, A = some ad → w.heap.size ≤ ad.block) ∧ Below w.heap.size w w' := fun w => c_l01Cut hs
    rw [← hps] at cc hpz hpp
    rw [← ho]
    have HO := Lib.hid (And.intro ho (And.intro hps hpz))
    clear ho hps hpz
    go_enter Tryd.func27, Tryd.ntmps27
    go_wp2_with fail
    refine (cc _).mono ?_
    rintro e w1 ⟨A, cap, rfl, hrd, hAb, hb1⟩
    have hb1' : Below w.heap.size w w1 := ((Below.refl _ _).alloc (Nat.le_refl _) _).trans (hb1.mono (by simp))
    have hown1 := own_below H0.out hb1
    have hap1 : Apart (.slice (some ⟨w.heap.size, 0, none⟩) 0 0) A := fun ad hA c => by
      have h1 := hAb ad hA
      have h2 : w.heap.size = ad.block := by simpa [Value.ownBlock] using c
      simp at h1; omega
    have hsz1 := hb1'.size
    have H1 := Lib.hid (And.intro hrd (And.intro hb1' (And.intro hown1 hap1)))
    clear hrd hb1 hb1' hown1 cc hAb hap1
    by_cases h64 : ps.length ≤ 64
    · have h64' : ¬ (64 < ((ps.length : Nat) : Int)) := by omega
      go_wp2_with fail
      go_loopw [4, 6] (fun v i wr => ∃ (k : Nat), i = .int .i64 k ∧ k ≤ ps.length ∧ wr.ownsRow w.heap.size 2 1 v (nums (ps.take k)).length ((nums (ps.take k)).map mkI) ∧ Hid (OkAll (ps.take k)) ∧ Below w.heap.size w wr ∧ RdS wr A ps ∧ Apart v A) (fun _ i _ => ps.length - (intOf i).toNat)
      case atStart => exact ⟨0, rfl, Nat.zero_le _, H1.out.2.2.1, fun p hp => by simp at hp, H1.out.2.1, H1.out.1, H1.out.2.2.2⟩
      case round =>
        obtain ⟨k, rfl, hk, hown, hok, hbw, hrd, hap⟩ := hrel
        have hsz := hbw.size
        by_cases hlt : k < ps.length
        · have HRD := Lib.hid (And.intro hrd hap)
          obtain ⟨ad, p, rfl, hc, hp⟩ := hrd.at_ hlt
          have hc2 := hc.2
          have c := c_l01Value (w := wr) (HO.out.2.2 p (List.mem_of_getElem? hp))
          have htl : (nums (ps.take k)).length = k := by rw [nums_length, List.length_take]; omega
          have HN := Lib.hid (And.intro hown (And.intro hbw (And.intro hp htl)))
          obtain ⟨r, hr⟩ : ∃ r, r = resD p := ⟨_, rfl⟩
          rw [← hr] at c
          have HR := Lib.hid hr
          obtain ⟨z, b⟩ := r
          clear hown hbw hc hp hr hrd hap htl
          cases b with
          | true =>
            go_wp2_with (first
              | (go_at_call 25; refine c.mono ?_; rintro e w2 ⟨rfl, hb2⟩)
              | (at_builtin; refine wpList_append_own_at _ rfl _ _ 24 rfl w.heap.size 2 i0 (.int .i64 0) 1 8 Tryd.underlying24 HI.out.1 HI.out.2.1 HI.out.2.2.1 HI.out.2.2.2 rfl (by decide) _ (nums (ps.take k)).length ((nums (ps.take k)).map mkI) rfl ((own_below HN.out.1 hb2).alloc _) ⟨w2.heap.size, 0, none⟩ 1 1 [.int .i64 z] rfl rfl (cell_one_new _ _ _) (one_cellI _) ?b3 ?b4 ?b5 ?_))
            case b3 => rw [HN.out.2.2.2]; unfold maxLen; omega
            case b4 => rw [HN.out.2.2.2]; omega
            case b5 => have := hb2.size; first | omega | (simp; omega)
            intro v3 w3 hown hgrow _ hat
            have hbw2 := HN.out.2.1.trans (hb2.mono HN.out.2.1.size)
            have hS2 := hb2.size
            have hbw3 : Below w.heap.size w w3 := (hbw2.alloc hbw2.size _).grown hgrow (by simp; omega) (own_block HN.out.1)
            have hrd2 := (HRD.out.1.below hb2).below ((Below.refl _ w2).alloc (Nat.le_refl _) (.cells #[.int .i64 z] 2))
            have hrd3 : RdS w3 (some ad) ps := hrd2.grown hgrow HRD.out.2
            have hap3 : Apart v3 (some ad) := apart_next hrd2 hpp HRD.out.2 hat (by simp)
            have hpush := own_push' (mk := mkI) (xs := nums (ps.take k)) (x := z) HN.out.2.2.2 (by have h9 := hown; rw [HN.out.2.2.2] at h9; exact h9)
            rw [show z = (resD p).1 from by rw [← HR.out], ← nums_take HN.out.2.2.1] at hpush
            have HK := Lib.hid (And.intro hpush (And.intro hbw3 (And.intro hrd3 hap3)))
            clear hown hgrow hbw3 hpush hrd2 hrd3 hap3 hat
            go_wp2_with fail
            go_roundw
            case rel => exact ⟨k + 1, by go_num, by omega, HK.out.1, ok_take HN.out.2.2.1 hok.out (by rw [← HR.out]), HK.out.2.1, HK.out.2.2.1, HK.out.2.2.2⟩
            case measure => simp [intOf]; omega
          | false =>
            go_wp2_with (go_at_call 25; refine c.mono ?_; rintro e w2 ⟨rfl, hb2⟩)
            go_ret2
            rw [HO.out.1, resLs_bad HNo.out (by rw [← HO.out.2.1]; exact HN.out.2.2.1) (by rw [← HR.out])]
            exact retRd_none _ (HN.out.2.1.trans (hb2.mono HN.out.2.1.size))
        · have hkk : k = ps.length := by omega
          have hok2 := okAll_of hkk hok.out
          subst hkk
          rw [List.take_length] at hown
          obtain ⟨A2, cap2, rfl, hrd2, _⟩ := own_rd hown
          have HN := Lib.hid (And.intro hrd2 hok2)
          clear hown hrd2 hok2 hrd hap hok
          go_wp2_with fail
          go_ret2
          rw [HO.out.1, resLs_ok HNo.out (by rw [← HO.out.2.1]; exact h64) (by rw [← HO.out.2.1]; exact HN.out.2), ← HO.out.2.1]
          exact ⟨A2, cap2, rfl, HN.out.1, hbw⟩
    · have h64' : 64 < ((ps.length : Nat) : Int) := by omega
      go_wp2_with fail
      go_ret2
      rw [HO.out.1, resLs_long HNo.out (by rw [← HO.out.2.1]; exact h64)]
      exact retRd_none _ H1.out.2.1

theorem c_spec_ReadList {w : World} {s : ByteArray} (hs : s.size ≤ 1048576) :
    Calls Tryd.prog 15 #[.string s] w (RetRd (resLs s) w) := by
  have c := c_l01Numbers (w := w) hs
  generalize resLs s = r at *
  go_enter Tryd.func15, Tryd.ntmps15
  go_wp2_with fail
  refine c.mono ?_
  rintro e w1 ⟨A, cap, rfl, hrd, hb1⟩
  go_wp2_with fail
  go_ret2
  exact ⟨A, cap, rfl, hrd, hb1⟩

end Go.Proofs.YtdngnfohcdamfaaDoor
