/-
  Sums of lists of float32: the program's and the reference's compute the same classes. No condition but on the lengths.
-/
import Derived.Test.YtpfijbgkhekjfabVl
set_option linter.unusedVariables false
namespace Go.Proofs.Ytpfijbgkhekjfab
open Go.RowKit Go.Proofs.Ytpfijbgkhekjfab.Fl

def sumK (cs : List (Option Nat)) : Nat → Option Nat
  | 0 => some 0
  | k + 1 => A (sumK cs k) (cs.getD k none)
def dotK (cs ds : List (Option Nat)) : Nat → Option Nat
  | 0 => some 0
  | k + 1 => A (dotK cs ds k) (M (cs.getD k none) (ds.getD k none))
def pairsF : Nat → List (Option Nat) → Option Nat
  | 0, _ => none
  | f + 1, cs => if cs.length = 0 then some 0 else if cs.length = 1 then cs.getD 0 none else A (pairsF f (cs.take ((cs.length + 1) / 2))) (pairsF f (cs.drop ((cs.length + 1) / 2)))
def RetFB (c : Option Nat) (b : Bool) (w : World) (e : Ending) (w' : World) : Prop := (∃ r, e = .returned (.tuple #[.float .f32 r, .bool b]) ∧ Fv .f32 r c) ∧ Below w.heap.size w w'

theorem RdC.take {w : World} {As : Option Addr} {cs : List (Option Nat)} (h : RdC w As cs) (m : Nat) : RdC w As (cs.take m) := by
  intro i hi
  have hi' : i < m ∧ i < cs.length := by rw [List.length_take] at hi; omega
  obtain ⟨ad, z, h1, h2, h3, h4⟩ := h i hi'.2
  exact ⟨ad, z, h1, h2, h3, by simpa [List.getD_eq_getElem?_getD, List.getElem?_take, hi'.1] using h4⟩
theorem RdC.drop {w : World} {ad : Addr} {cs : List (Option Nat)} (h : RdC w (some ad) cs) (m : Nat) : RdC w (some (ad.add m)) (cs.drop m) := by
  intro i hi
  have hi' : m + i < cs.length := by rw [List.length_drop] at hi; omega
  obtain ⟨ad', z, h1, h2, h3, h4⟩ := h (m + i) hi'
  cases h1
  exact ⟨_, z, rfl, by rw [addr_block]; exact h2, by rw [addr_add]; exact h3, by simpa [List.getD_eq_getElem?_getD, List.getElem?_drop] using h4⟩

theorem few_yes {As : Option Addr} {n cap : Nat} (hn : n ≤ 256) (w : World) : Calls Try.prog 28 #[.slice As n cap] w fun e w' => e = .returned (.bool true) ∧ w = w' := by
  have hI : decide (((n : Nat) : Int) ≤ 256) = true := by simp; omega
  go_enter Try.func28, Try.ntmps28
  go_wp2
  go_ret
  exact ⟨rfl, rfl⟩
theorem few_no {As : Option Addr} {n cap : Nat} (hn : 256 < n) (w : World) : Calls Try.prog 28 #[.slice As n cap] w fun e w' => e = .returned (.bool false) ∧ w = w' := by
  have hI : decide (((n : Nat) : Int) ≤ 256) = false := by simp; omega
  go_enter Try.func28, Try.ntmps28
  go_wp2
  go_ret
  exact ⟨rfl, rfl⟩

theorem c_impl_sum {w : World} {As : Option Addr} {cap : Nat} {cs : List (Option Nat)} (h : RdC w As cs) (hn : cs.length ≤ 256) :
    Calls Try.prog 31 #[.slice As cs.length cap] w (RetF .f32 (sumK cs cs.length) w) := by
  go_enter Try.func31, Try.ntmps31
  go_wp2
  go_loopw [3, 8] (fun s i wr => ∃ k r : Nat, k ≤ cs.length ∧ i = .int .i64 k ∧ s = .float .f32 r ∧ Fv .f32 r (sumK cs k) ∧ Below w.heap.size w wr) (fun _ i _ => cs.length - (intOf i).toNat)
  case atStart => exact ⟨0, _, Nat.zero_le _, rfl, rfl, (fvc rfl : Fv .f32 0 (some 0)), Below.refl _ _⟩
  case round =>
    obtain ⟨k, r, hk, rfl, rfl, hr, hbw⟩ := hrel
    by_cases hlt : k < cs.length
    · obtain ⟨ad, z, rfl, hc, hz⟩ := (h.below hbw).at_ hlt
      have hc2 := hc.2
      have HN := Lib.hid h
      clear h
      go_wp2_with ((with_reducible apply upon_float_bin); exact rfl; exact hr; exact hz; intro r2 n2 hr2; (try rw [World.drewN_drewN]); simp only [Act.put, List.setIfInBounds_toArray, List.set_cons_zero, List.set_cons_succ])
      have h := HN.out
      go_roundw
      case rel => exact ⟨k + 1, _, by omega, by go_num, rfl, hr2, below_drewN hbw _⟩
      case measure => simp [intOf]; omega
    · obtain rfl : k = cs.length := by omega
      go_wp2
      go_ret
      exact ⟨⟨_, rfl, hr⟩, hbw⟩

theorem c_spec_l01Sum {w : World} {As : Option Addr} {cap : Nat} {cs : List (Option Nat)} (h : RdC w As cs) (hn : cs.length ≤ 256) :
    Calls Try.prog 30 #[.slice As cs.length cap] w (RetF .f32 (sumK cs cs.length) w) := by
  go_enter Try.func30, Try.ntmps30
  go_wp2
  go_loopw [3, 4] (fun s i wr => ∃ k r : Nat, k ≤ cs.length ∧ i = .int .i64 k ∧ s = .float .f32 r ∧ Fv .f32 r (sumK cs k) ∧ Below w.heap.size w wr) (fun _ i _ => cs.length - (intOf i).toNat)
  case atStart => exact ⟨0, _, Nat.zero_le _, rfl, rfl, (fvc rfl : Fv .f32 0 (some 0)), Below.refl _ _⟩
  case round =>
    obtain ⟨k, r, hk, rfl, rfl, hr, hbw⟩ := hrel
    by_cases hlt : k < cs.length
    · obtain ⟨ad, z, rfl, hc, hz⟩ := (h.below hbw).at_ hlt
      have hc2 := hc.2
      have HN := Lib.hid h
      clear h
      go_wp2_with ((with_reducible apply upon_float_bin); exact rfl; exact hr; exact hz; intro r2 n2 hr2; (try rw [World.drewN_drewN]); simp only [Act.put, List.setIfInBounds_toArray, List.set_cons_zero, List.set_cons_succ])
      have h := HN.out
      go_roundw
      case rel => exact ⟨k + 1, _, by omega, by go_num, rfl, hr2, below_drewN hbw _⟩
      case measure => simp [intOf]; omega
    · obtain rfl : k = cs.length := by omega
      go_wp2
      go_ret
      exact ⟨⟨_, rfl, hr⟩, hbw⟩

theorem c_impl_SumNumbers {w : World} {As : Option Addr} {cap : Nat} {cs : List (Option Nat)} (h : RdC w As cs) (hn : cs.length ≤ 256) :
    Calls Try.prog 18 #[.slice As cs.length cap] w (RetFB (sumK cs cs.length) true w) := by
  have H := c_impl_sum (cap := cap) h hn
  clear h
  go_enter Try.func18, Try.ntmps18
  go_wp2_with fail
  refine H.mono ?_; rintro e w' ⟨⟨r, rfl, hr⟩, hb⟩
  go_wp2_with fail
  go_ret2
  exact ⟨⟨_, rfl, hr⟩, hb⟩
theorem many_impl_SumNumbers {w : World} {As : Option Addr} {n cap : Nat} (hn : 256 < n) :
    Calls Try.prog 18 #[.slice As n cap] w (RetFB (some 0) false w) := by
  go_enter Try.func18, Try.ntmps18
  go_wp2_with fail
  go_ret2
  exact ⟨⟨_, rfl, (fvc rfl : Fv .f32 0 (some 0))⟩, by (repeat (first | exact Below.refl _ _ | (refine below_drewN ?_ _) | (refine Below.drew ?_) | (refine Below.setCell ?_ (by first | omega | (simp; try omega)) _) | (refine Below.alloc ?_ (by first | omega | (simp; try omega)) _) | (refine Below.trans ?_ (Below.mono (by assumption) (by first | omega | (simp; try omega))))))⟩

theorem c_spec_SumNumbers {w : World} {As : Option Addr} {cap : Nat} {cs : List (Option Nat)} (h : RdC w As cs) (hn : cs.length ≤ 256) :
    Calls Try.prog 17 #[.slice As cs.length cap] w (RetFB (sumK cs cs.length) true w) := by
  have H := c_spec_l01Sum (cap := cap) h hn
  clear h
  go_enter Try.func17, Try.ntmps17
  go_wp2_with fail
  refine (few_yes hn _).mono ?_; rintro e w' ⟨rfl, rfl⟩
  go_wp2_with fail
  refine H.mono ?_; rintro e w' ⟨⟨r, rfl, hr⟩, hb⟩
  go_wp2_with fail
  go_ret2
  exact ⟨⟨_, rfl, hr⟩, hb⟩
theorem many_spec_SumNumbers {w : World} {As : Option Addr} {n cap : Nat} (hn : 256 < n) :
    Calls Try.prog 17 #[.slice As n cap] w (RetFB (some 0) false w) := by
  go_enter Try.func17, Try.ntmps17
  go_wp2_with fail
  refine (few_no hn _).mono ?_; rintro e w' ⟨rfl, rfl⟩
  go_wp2_with fail
  go_ret2
  exact ⟨⟨_, rfl, (fvc rfl : Fv .f32 0 (some 0))⟩, by (repeat (first | exact Below.refl _ _ | (refine below_drewN ?_ _) | (refine Below.drew ?_) | (refine Below.setCell ?_ (by first | omega | (simp; try omega)) _) | (refine Below.alloc ?_ (by first | omega | (simp; try omega)) _) | (refine Below.trans ?_ (Below.mono (by assumption) (by first | omega | (simp; try omega))))))⟩

theorem c_impl_DotNumbers {w : World} {As Bs : Option Addr} {cap cap2 : Nat} {cs ds : List (Option Nat)} (h : RdC w As cs) (h2 : RdC w Bs ds) (hn : cs.length ≤ 256) (hl : cs.length = ds.length) :
    Calls Try.prog 15 #[.slice As cs.length cap, .slice Bs ds.length cap2] w (RetFB (dotK cs ds cs.length) true w) := by
  rw [← hl]
  have hl2 := Lib.hid hl
  clear hl
  go_enter Try.func15, Try.ntmps15
  go_wp2
  go_loopw [6, 21] (fun s i wr => ∃ k r : Nat, k ≤ cs.length ∧ i = .int .i64 k ∧ s = .float .f32 r ∧ Fv .f32 r (dotK cs ds k) ∧ Below w.heap.size w wr) (fun _ i _ => cs.length - (intOf i).toNat)
  case atStart => exact ⟨0, _, Nat.zero_le _, rfl, rfl, (fvc rfl : Fv .f32 0 (some 0)), Below.refl _ _⟩
  case round =>
    obtain ⟨k, r, hk, rfl, rfl, hr, hbw⟩ := hrel
    by_cases hlt : k < cs.length
    · have hlt2 : k < ds.length := by have := hl2.out; omega
      obtain ⟨ad, z, rfl, hc, hz⟩ := (h.below hbw).at_ hlt
      obtain ⟨bd, z2, rfl, hd, hz2⟩ := (h2.below hbw).at_ hlt2
      have hc2 := hc.2
      have hd2 := hd.2
      have HN := Lib.hid (And.intro h (And.intro h2 hlt2))
      clear h h2 hlt2
      go_wp2_with fail
      (with_reducible apply upon_float_bin); exact rfl; exact hz; exact hz2; intro r1 n1 hr1; (try rw [World.drewN_drewN]); simp only [Act.put, List.setIfInBounds_toArray, List.set_cons_zero, List.set_cons_succ]
      go_wp2_with fail
      (with_reducible apply upon_float_bin); exact rfl; exact hr; exact hr1; intro r2 n2 hr2; (try rw [World.drewN_drewN]); simp only [Act.put, List.setIfInBounds_toArray, List.set_cons_zero, List.set_cons_succ]
      go_wp2_with fail
      obtain ⟨h, h2, hlt2⟩ := HN.out
      go_roundw
      case rel => exact ⟨k + 1, _, by omega, by go_num, rfl, hr2, by (first | exact below_drewN (below_drewN hbw _) _ | exact below_drewN hbw _)⟩
      case measure => simp [intOf]; omega
    · obtain rfl : k = cs.length := by omega
      go_wp2
      go_ret2
      exact ⟨⟨_, rfl, hr⟩, hbw⟩

theorem dot_many_impl {w : World} {As Bs : Option Addr} {n m cap cap2 : Nat} (hn : 256 < n ∨ n ≠ m) :
    Calls Try.prog 15 #[.slice As n cap, .slice Bs m cap2] w (RetFB (some 0) false w) := by
  by_cases h1 : 256 < n
  · go_enter Try.func15, Try.ntmps15
    go_wp2
    go_ret2
    exact ⟨⟨_, rfl, (fvc rfl : Fv .f32 0 (some 0))⟩, by (repeat (first | exact Below.refl _ _ | (refine below_drewN ?_ _) | (refine Below.drew ?_) | (refine Below.setCell ?_ (by first | omega | (simp; try omega)) _) | (refine Below.alloc ?_ (by first | omega | (simp; try omega)) _) | (refine Below.trans ?_ (Below.mono (by assumption) (by first | omega | (simp; try omega))))))⟩
  · have h3 : (((n : Nat) : Int) != ((m : Nat) : Int)) = true := by simp; omega
    have h4 : ((n : Nat) : Int) ≤ 256 := by omega
    clear hn h1
    go_enter Try.func15, Try.ntmps15
    go_wp2
    go_ret2
    exact ⟨⟨_, rfl, (fvc rfl : Fv .f32 0 (some 0))⟩, by (repeat (first | exact Below.refl _ _ | (refine below_drewN ?_ _) | (refine Below.drew ?_) | (refine Below.setCell ?_ (by first | omega | (simp; try omega)) _) | (refine Below.alloc ?_ (by first | omega | (simp; try omega)) _) | (refine Below.trans ?_ (Below.mono (by assumption) (by first | omega | (simp; try omega))))))⟩

set_option maxHeartbeats 4000000 in
theorem c_spec_l01Dot {w : World} {As Bs : Option Addr} {cap cap2 : Nat} {cs ds : List (Option Nat)} (h : RdC w As cs) (h2 : RdC w Bs ds) (hn : cs.length ≤ 256) (hl : cs.length = ds.length) :
    Calls Try.prog 29 #[.slice As cs.length cap, .slice Bs ds.length cap2] w (RetF .f32 (dotK cs ds cs.length) w) := by
  rw [← hl]
  have hl2 := Lib.hid hl
  clear hl
  go_enter Try.func29, Try.ntmps29
  go_wp2
  go_loopw [5, 6] (fun s i wr => ∃ k r : Nat, k ≤ cs.length ∧ i = .int .i64 k ∧ s = .float .f32 r ∧ Fv .f32 r (dotK cs ds k) ∧ Below w.heap.size w wr) (fun _ i _ => cs.length - (intOf i).toNat)
  case atStart => exact ⟨0, _, Nat.zero_le _, rfl, rfl, (fvc rfl : Fv .f32 0 (some 0)), Below.refl _ _⟩
  case round =>
    obtain ⟨k, r, hk, rfl, rfl, hr, hbw⟩ := hrel
    by_cases hlt : k < cs.length
    · have hlt2 : k < ds.length := by have := hl2.out; omega
      obtain ⟨ad, z, rfl, hc, hz⟩ := (h.below hbw).at_ hlt
      obtain ⟨bd, z2, rfl, hd, hz2⟩ := (h2.below hbw).at_ hlt2
      have HN := Lib.hid (And.intro h (And.intro h2 hlt2))
      clear h h2 hlt2
      go_wp2_with fail
      refine wp_region_drawn [(13, isV (.float .f32 r)), (14, isV (.slice (some ad) cs.length cap)), (15, isV (.int .i64 k)), (16, isV (.pointer (some (ad.add k)))), (17, isV (.float .f32 z)), (18, isV (.slice (some bd) cs.length cap2)), (19, isV (.int .i64 k)), (20, isV (.pointer (some (bd.add k)))), (21, isV (.float .f32 z2)), (22, isFlt .f32 (M (cs.getD k none) (ds.getD k none))), (23, isFlt .f32 (A (dotK cs ds k) (M (cs.getD k none) (ds.getD k none))))]
        (fun wr => Cel wr (ad.add k) (.float .f32 z) ∧ Cel wr (bd.add k) (.float .f32 z2) ∧ Below w.heap.size w wr)
        (by kernel_rfl) (by kernel_rfl) (by kernel_rfl) (by kernel_rfl) (Nat.le_of_ble_eq_true (by kernel_rfl)) (by kernel_rfl) ?_ (fun _ _ hb ⟨⟨hca1, hca⟩, ⟨hcb1, hcb⟩, hbw⟩ => ⟨Cel.below ⟨hca1, hca⟩ hb, Cel.below ⟨hcb1, hcb⟩ hb, hbw.trans (hb.mono hbw.size)⟩) ⟨hc, hd, hbw.drew⟩ ?_ ?_
      · intro p hp
        simp only [List.mem_cons, List.not_mem_nil, or_false] at hp
        rcases hp with rfl | rfl | rfl | rfl | rfl | rfl | rfl | rfl | rfl | rfl | rfl <;> first | exact mono_isV _ | exact mono_isFlt _ _
      · intro i o hi ho f w1 hI hdep
        simp only [List.map_cons, List.map_nil, mix, List.contains_cons, List.contains_nil, Nat.reduceBEq, Bool.or_true, Bool.or_false, Bool.false_eq_true, if_true, if_false, Nat.reduceAdd, Nat.zero_add]
        have hcase : i = 0 ∨ i = 1 ∨ i = 2 ∨ i = 3 ∨ i = 4 ∨ i = 5 ∨ i = 6 ∨ i = 7 ∨ i = 8 ∨ i = 9 ∨ i = 10 := by simp at hi; omega
        obtain ⟨⟨hca1, hca⟩, ⟨hcb1, hcb⟩, hbw⟩ := hI
        rcases hcase with rfl | rfl | rfl | rfl | rfl | rfl | rfl | rfl | rfl | rfl | rfl
        · obtain rfl := Option.some.inj ho
          clear hdep ho hi
          generalize f 13 = v13 at *; generalize f 14 = v14 at *; generalize f 15 = v15 at *; generalize f 16 = v16 at *; generalize f 17 = v17 at *; generalize f 18 = v18 at *; generalize f 19 = v19 at *; generalize f 20 = v20 at *; generalize f 21 = v21 at *; generalize f 22 = v22 at *; generalize f 23 = v23 at *
          refine wpOp_step rfl (fun K hK => ?_)
          go_simp
          exact hK _ _ ⟨_, rfl, (fun p hp => by cases hp; rfl), Below.refl _ _⟩
        · obtain rfl := Option.some.inj ho
          clear hdep ho hi
          generalize f 13 = v13 at *; generalize f 14 = v14 at *; generalize f 15 = v15 at *; generalize f 16 = v16 at *; generalize f 17 = v17 at *; generalize f 18 = v18 at *; generalize f 19 = v19 at *; generalize f 20 = v20 at *; generalize f 21 = v21 at *; generalize f 22 = v22 at *; generalize f 23 = v23 at *
          refine wpOp_step rfl (fun K hK => ?_)
          go_simp
          exact hK _ _ ⟨_, rfl, (fun p hp => by cases hp; rfl), Below.refl _ _⟩
        · obtain rfl := Option.some.inj ho
          clear hdep ho hi
          generalize f 13 = v13 at *; generalize f 14 = v14 at *; generalize f 15 = v15 at *; generalize f 16 = v16 at *; generalize f 17 = v17 at *; generalize f 18 = v18 at *; generalize f 19 = v19 at *; generalize f 20 = v20 at *; generalize f 21 = v21 at *; generalize f 22 = v22 at *; generalize f 23 = v23 at *
          refine wpOp_step rfl (fun K hK => ?_)
          go_simp
          exact hK _ _ ⟨_, rfl, (fun p hp => by cases hp; rfl), Below.refl _ _⟩
        · obtain rfl := Option.some.inj ho
          have e1 : f 14 = (.slice (some ad) cs.length cap) := hdep ⟨1, .data⟩ (by simp) rfl
          have e2 : f 15 = (.int .i64 k) := hdep ⟨2, .data⟩ (by simp) rfl
          clear hdep ho hi
          generalize f 13 = v13 at *; generalize f 14 = v14 at *; generalize f 15 = v15 at *; generalize f 16 = v16 at *; generalize f 17 = v17 at *; generalize f 18 = v18 at *; generalize f 19 = v19 at *; generalize f 20 = v20 at *; generalize f 21 = v21 at *; generalize f 22 = v22 at *; generalize f 23 = v23 at *
          subst e1 e2
          refine wpOp_step rfl (fun K hK => ?_)
          go_simp
          exact hK _ _ ⟨_, rfl, (fun p hp => by cases hp; rfl), Below.refl _ _⟩
        · obtain rfl := Option.some.inj ho
          have e3 : f 16 = (.pointer (some (ad.add k))) := hdep ⟨3, .data⟩ (by simp) rfl
          clear hdep ho hi
          generalize f 13 = v13 at *; generalize f 14 = v14 at *; generalize f 15 = v15 at *; generalize f 16 = v16 at *; generalize f 17 = v17 at *; generalize f 18 = v18 at *; generalize f 19 = v19 at *; generalize f 20 = v20 at *; generalize f 21 = v21 at *; generalize f 22 = v22 at *; generalize f 23 = v23 at *
          subst e3
          refine wpOp_step rfl (fun K hK => ?_)
          go_simp
          exact hK _ _ ⟨_, rfl, (fun p hp => by cases hp; rfl), Below.refl _ _⟩
        · obtain rfl := Option.some.inj ho
          clear hdep ho hi
          generalize f 13 = v13 at *; generalize f 14 = v14 at *; generalize f 15 = v15 at *; generalize f 16 = v16 at *; generalize f 17 = v17 at *; generalize f 18 = v18 at *; generalize f 19 = v19 at *; generalize f 20 = v20 at *; generalize f 21 = v21 at *; generalize f 22 = v22 at *; generalize f 23 = v23 at *
          refine wpOp_step rfl (fun K hK => ?_)
          go_simp
          exact hK _ _ ⟨_, rfl, (fun p hp => by cases hp; rfl), Below.refl _ _⟩
        · obtain rfl := Option.some.inj ho
          clear hdep ho hi
          generalize f 13 = v13 at *; generalize f 14 = v14 at *; generalize f 15 = v15 at *; generalize f 16 = v16 at *; generalize f 17 = v17 at *; generalize f 18 = v18 at *; generalize f 19 = v19 at *; generalize f 20 = v20 at *; generalize f 21 = v21 at *; generalize f 22 = v22 at *; generalize f 23 = v23 at *
          refine wpOp_step rfl (fun K hK => ?_)
          go_simp
          exact hK _ _ ⟨_, rfl, (fun p hp => by cases hp; rfl), Below.refl _ _⟩
        · obtain rfl := Option.some.inj ho
          have e5 : f 18 = (.slice (some bd) cs.length cap2) := hdep ⟨5, .data⟩ (by simp) rfl
          have e6 : f 19 = (.int .i64 k) := hdep ⟨6, .data⟩ (by simp) rfl
          clear hdep ho hi
          generalize f 13 = v13 at *; generalize f 14 = v14 at *; generalize f 15 = v15 at *; generalize f 16 = v16 at *; generalize f 17 = v17 at *; generalize f 18 = v18 at *; generalize f 19 = v19 at *; generalize f 20 = v20 at *; generalize f 21 = v21 at *; generalize f 22 = v22 at *; generalize f 23 = v23 at *
          subst e5 e6
          refine wpOp_step rfl (fun K hK => ?_)
          go_simp
          exact hK _ _ ⟨_, rfl, (fun p hp => by cases hp; rfl), Below.refl _ _⟩
        · obtain rfl := Option.some.inj ho
          have e7 : f 20 = (.pointer (some (bd.add k))) := hdep ⟨7, .data⟩ (by simp) rfl
          clear hdep ho hi
          generalize f 13 = v13 at *; generalize f 14 = v14 at *; generalize f 15 = v15 at *; generalize f 16 = v16 at *; generalize f 17 = v17 at *; generalize f 18 = v18 at *; generalize f 19 = v19 at *; generalize f 20 = v20 at *; generalize f 21 = v21 at *; generalize f 22 = v22 at *; generalize f 23 = v23 at *
          subst e7
          refine wpOp_step rfl (fun K hK => ?_)
          go_simp
          exact hK _ _ ⟨_, rfl, (fun p hp => by cases hp; rfl), Below.refl _ _⟩
        · obtain rfl := Option.some.inj ho
          have e4 : f 17 = (.float .f32 z) := hdep ⟨4, .data⟩ (by simp) rfl
          have e8 : f 21 = (.float .f32 z2) := hdep ⟨8, .data⟩ (by simp) rfl
          clear hdep ho hi
          generalize f 13 = v13 at *; generalize f 14 = v14 at *; generalize f 15 = v15 at *; generalize f 16 = v16 at *; generalize f 17 = v17 at *; generalize f 18 = v18 at *; generalize f 19 = v19 at *; generalize f 20 = v20 at *; generalize f 21 = v21 at *; generalize f 22 = v22 at *; generalize f 23 = v23 at *
          subst e4 e8
          refine wpOp_step rfl (fun K hK => ?_)
          go_simp
          (with_reducible apply upon_float_bin); exact rfl; exact hz; exact hz2; intro r n hr
          exact hK _ _ ⟨_, rfl, (fun p hp => by cases hp; exact ⟨_, rfl, hr⟩), below_drewN (Below.refl _ _) _⟩
        · obtain rfl := Option.some.inj ho
          have e0 : f 13 = (.float .f32 r) := hdep ⟨0, .data⟩ (by simp) rfl
          obtain ⟨r9, e9, hv9⟩ : isFlt _ _ (f 22) w1 := hdep ⟨9, .data⟩ (by simp) rfl
          clear hdep ho hi
          generalize f 13 = v13 at *; generalize f 14 = v14 at *; generalize f 15 = v15 at *; generalize f 16 = v16 at *; generalize f 17 = v17 at *; generalize f 18 = v18 at *; generalize f 19 = v19 at *; generalize f 20 = v20 at *; generalize f 21 = v21 at *; generalize f 22 = v22 at *; generalize f 23 = v23 at *
          subst e0 e9
          refine wpOp_step rfl (fun K hK => ?_)
          go_simp
          (with_reducible apply upon_float_bin); exact rfl; exact hr; exact hv9; intro r n hr
          exact hK _ _ ⟨_, rfl, (fun p hp => by cases hp; exact ⟨_, rfl, hr⟩), below_drewN (Below.refl _ _) _⟩
      · intro f w1 hI hF
        simp only [List.map_cons, List.map_nil, mix, List.contains_cons, List.contains_nil, Nat.reduceBEq, Bool.or_true, Bool.or_false, Bool.false_eq_true, if_true, if_false, Nat.reduceAdd, Nat.zero_add]
        obtain ⟨_, _, hbw1⟩ := hI
        obtain ⟨r2, e10, hr2⟩ : isFlt _ _ (f 23) w1 := hF 10 (by simp)
        clear hF
        generalize f 13 = v13 at *; generalize f 14 = v14 at *; generalize f 15 = v15 at *; generalize f 16 = v16 at *; generalize f 17 = v17 at *; generalize f 18 = v18 at *; generalize f 19 = v19 at *; generalize f 20 = v20 at *; generalize f 21 = v21 at *; generalize f 22 = v22 at *; generalize f 23 = v23 at *
        subst e10
        change wpAny _ _ _ _ (0 + 1) _ _ _
        refine wpAny_all (rs := [11]) (by kernel_rfl) (by simp) ?_
        intro i hi
        obtain rfl : i = 11 := by simpa using hi
        clear hi
        refine wpOp_step rfl (fun K hK => ?_)
        go_simp
        refine hK _ _ (wpAny_done (by kernel_rfl) ?_ _)
        clear hK K
        obtain ⟨h, h2, hlt2⟩ := HN.out
        go_wp2_with fail
        go_roundw
        case rel => exact ⟨k + 1, _, by omega, by go_num, rfl, hr2, hbw1⟩
        case measure => simp [intOf]; omega
    · obtain rfl : k = cs.length := by omega
      go_wp2
      go_ret
      exact ⟨⟨_, rfl, hr⟩, hbw⟩

theorem c_spec_DotNumbers {w : World} {As Bs : Option Addr} {cap cap2 : Nat} {cs ds : List (Option Nat)} (h : RdC w As cs) (h2 : RdC w Bs ds) (hn : cs.length ≤ 256) (hl : cs.length = ds.length) :
    Calls Try.prog 13 #[.slice As cs.length cap, .slice Bs ds.length cap2] w (RetFB (dotK cs ds cs.length) true w) := by
  have H := c_spec_l01Dot (cap := cap) (cap2 := cap2) h h2 hn hl
  rw [← hl] at H ⊢
  have hl2 := Lib.hid hl
  have HH := Lib.hid (And.intro h h2)
  clear hl h h2
  go_enter Try.func13, Try.ntmps13
  go_wp2_with fail
  refine (few_yes hn _).mono ?_; rintro e w' ⟨rfl, rfl⟩
  go_wp2_with fail
  refine H.mono ?_; rintro e w' ⟨⟨r, rfl, hr⟩, hb⟩
  go_wp2_with fail
  go_ret2
  exact ⟨⟨_, rfl, hr⟩, hb⟩

theorem dot_many_spec {w : World} {As Bs : Option Addr} {n m cap cap2 : Nat} (hn : 256 < n ∨ n ≠ m) :
    Calls Try.prog 13 #[.slice As n cap, .slice Bs m cap2] w (RetFB (some 0) false w) := by
  by_cases h1 : 256 < n
  · go_enter Try.func13, Try.ntmps13
    go_wp2_with fail
    refine (few_no h1 _).mono ?_; rintro e w' ⟨rfl, rfl⟩
    go_wp2_with fail
    go_ret2
    exact ⟨⟨_, rfl, (fvc rfl : Fv .f32 0 (some 0))⟩, by (repeat (first | exact Below.refl _ _ | (refine below_drewN ?_ _) | (refine Below.drew ?_) | (refine Below.setCell ?_ (by first | omega | (simp; try omega)) _) | (refine Below.alloc ?_ (by first | omega | (simp; try omega)) _) | (refine Below.trans ?_ (Below.mono (by assumption) (by first | omega | (simp; try omega))))))⟩
  · have h3 : (((n : Nat) : Int) != ((m : Nat) : Int)) = true := by simp; omega
    have h4 : ((n : Nat) : Int) ≤ 256 := by omega
    clear hn h1
    go_enter Try.func13, Try.ntmps13
    go_wp2_with fail
    refine (few_yes (by omega) _).mono ?_; rintro e w' ⟨rfl, rfl⟩
    go_wp2_with fail
    go_ret2
    exact ⟨⟨_, rfl, (fvc rfl : Fv .f32 0 (some 0))⟩, by (repeat (first | exact Below.refl _ _ | (refine below_drewN ?_ _) | (refine Below.drew ?_) | (refine Below.setCell ?_ (by first | omega | (simp; try omega)) _) | (refine Below.alloc ?_ (by first | omega | (simp; try omega)) _) | (refine Below.trans ?_ (Below.mono (by assumption) (by first | omega | (simp; try omega))))))⟩

set_option maxHeartbeats 4000000 in
theorem c_impl_sumPairs : ∀ (u : Nat) {w : World} {As : Option Addr} {cap : Nat} {cs : List (Option Nat)} (h : RdC w As cs) (hn : cs.length < u) (hu : u ≤ 257) (hcap : cs.length ≤ cap) (hcap2 : cap ≤ 1048576),
    Calls Try.prog 33 #[.slice As cs.length cap] w (RetF .f32 (pairsF u cs) w) := by
  intro u
  induction u with
  | zero => intro w As cap cs h hn; omega
  | succ u ih =>
    intro w As cap cs h hn hu hcap hcap2
    by_cases h0 : cs.length = 0
    · have e : pairsF (u + 1) cs = some 0 := by rw [pairsF, if_pos h0]
      rw [e]
      rw [h0]
      clear ih h hn hcap h0 e
      go_enter Try.func33, Try.ntmps33
      go_wp2
      go_ret
      exact ⟨⟨_, rfl, (fvc rfl : Fv .f32 0 (some 0))⟩, by (repeat (first | exact Below.refl _ _ | (refine below_drewN ?_ _) | (refine Below.drew ?_) | (refine Below.setCell ?_ (by first | omega | (simp; try omega)) _) | (refine Below.alloc ?_ (by first | omega | (simp; try omega)) _) | (refine Below.trans ?_ (Below.mono (by assumption) (by first | omega | (simp; try omega))))))⟩
    by_cases h1 : cs.length = 1
    · have e : pairsF (u + 1) cs = cs.getD 0 none := by rw [pairsF, if_neg h0, if_pos h1]
      rw [e]
      obtain ⟨ad, z, rfl, hc, hz⟩ := h.at_ (k := 0) (by omega)
      have hc2 := hc.2
      rw [Addr.add_zero'] at hc2
      rw [h1]
      clear ih h hn hcap h0 e hc h1
      go_enter Try.func33, Try.ntmps33
      go_wp2
      go_ret
      exact ⟨⟨_, rfl, hz⟩, by (repeat (first | exact Below.refl _ _ | (refine below_drewN ?_ _) | (refine Below.drew ?_) | (refine Below.setCell ?_ (by first | omega | (simp; try omega)) _) | (refine Below.alloc ?_ (by first | omega | (simp; try omega)) _) | (refine Below.trans ?_ (Below.mono (by assumption) (by first | omega | (simp; try omega))))))⟩
    · have e : pairsF (u + 1) cs = A (pairsF u (cs.take ((cs.length + 1) / 2))) (pairsF u (cs.drop ((cs.length + 1) / 2))) := by rw [pairsF, if_neg h0, if_neg h1]
      rw [e]
      clear e
      have hm : ((cs.length : Int) + 1) / 2 = (((cs.length + 1) / 2 : Nat) : Int) := by omega
      have hmd : ((cs.length : Int) + 1).tdiv 2 = (((cs.length + 1) / 2 : Nat) : Int) := by rw [← hm]; exact Int.tdiv_eq_ediv_of_nonneg (by omega)
      generalize hmm : (cs.length + 1) / 2 = m at *
      have b1 : 1 ≤ m := by omega
      have b2 : m < cs.length := by omega
      have b3 : m < cap := by omega
      have b4 : cap ≠ m := by omega
      have b5 : 2 ≤ cs.length := by omega
      obtain ⟨ad, z, rfl, hc, hz⟩ := h.at_ (k := 0) (by omega)
      have P1 : ∀ w1, RdC w1 (some ad) cs → Calls Try.prog 33 #[.slice (some ad) m cap] w1 (RetF .f32 (pairsF u (cs.take m)) w1) := by
        intro w1 hr
        have hl : (cs.take m).length = m := by rw [List.length_take]; omega
        have := ih (cap := cap) (hr.take m) (by omega) (by omega) (by omega) hcap2
        rwa [hl] at this
      have P2 : ∀ w1, RdC w1 (some ad) cs → Calls Try.prog 33 #[.slice (some (ad.add m)) (cs.length - m) (cap - m)] w1 (RetF .f32 (pairsF u (cs.drop m)) w1) := by
        intro w1 hr
        have hl : (cs.drop m).length = cs.length - m := List.length_drop
        have := ih (cap := cap - m) (hr.drop m) (by omega) (by omega) (by omega) (by omega)
        rwa [hl] at this
      have i1 : (((cs.length : Nat) : Int) == 0) = false := beq_eq_false_iff_ne.2 (by omega)
      have i2 : (((cs.length : Nat) : Int) == 1) = false := beq_eq_false_iff_ne.2 (by omega)
      have b6 : m ≤ cap := by omega
      have b7 : m ≤ cs.length := by omega
      have HN := Lib.hid (And.intro hc (And.intro hz hmm))
      clear ih hc hz hmm
      go_enter Try.func33, Try.ntmps33
      go_upto_region 7 with fail
      have hbA := Below.refl w.heap.size w
      refine wp_region_drawn [(17, isV (.slice (some ad) cs.length cap)), (18, isV (.int .i64 (m : Nat))), (19, isV (.slice (some ad) m cap)), (20, isFlt .f32 (pairsF u (cs.take m))), (21, isV (.slice (some ad) cs.length cap)), (22, isV (.int .i64 (m : Nat))), (23, isV (.slice (some (ad.add m)) (cs.length - m) (cap - m))), (24, isFlt .f32 (pairsF u (cs.drop m))), (25, isFlt .f32 (A (pairsF u (cs.take m)) (pairsF u (cs.drop m))))]
        (fun wr => RdC wr (some ad) cs ∧ Below w.heap.size w wr)
        (by kernel_rfl) (by kernel_rfl) (by kernel_rfl) (by kernel_rfl) (Nat.le_of_ble_eq_true (by kernel_rfl)) (by kernel_rfl) ?_ (fun _ _ hb ⟨hrd, hbw⟩ => ⟨hrd.below hb, hbw.trans (hb.mono hbw.size)⟩) ⟨h.below (Below.refl _ _).drew, (Below.refl _ _).drew⟩ ?_ ?_
      · intro p hp
        simp only [List.mem_cons, List.not_mem_nil, or_false] at hp
        rcases hp with rfl | rfl | rfl | rfl | rfl | rfl | rfl | rfl | rfl <;> first | exact mono_isV _ | exact mono_isFlt _ _
      · intro i o hi ho f w1 hI hdep
        simp only [List.map_cons, List.map_nil, mix, List.contains_cons, List.contains_nil, Nat.reduceBEq, Bool.or_true, Bool.or_false, Bool.false_eq_true, if_true, if_false, Nat.reduceAdd, Nat.zero_add]
        have hcase : i = 0 ∨ i = 1 ∨ i = 2 ∨ i = 3 ∨ i = 4 ∨ i = 5 ∨ i = 6 ∨ i = 7 ∨ i = 8 := by simp at hi; omega
        obtain ⟨hrd, hbw⟩ := hI
        rcases hcase with rfl | rfl | rfl | rfl | rfl | rfl | rfl | rfl | rfl
        · obtain rfl := Option.some.inj ho
          clear hdep ho hi
          generalize f 17 = v17 at *; generalize f 18 = v18 at *; generalize f 19 = v19 at *; generalize f 20 = v20 at *; generalize f 21 = v21 at *; generalize f 22 = v22 at *; generalize f 23 = v23 at *; generalize f 24 = v24 at *; generalize f 25 = v25 at *
          refine wpOp_step rfl (fun K hK => ?_)
          go_simp
          exact hK _ _ ⟨_, rfl, (fun p hp => by cases hp; rfl), Below.refl _ _⟩
        · obtain rfl := Option.some.inj ho
          clear hdep ho hi
          generalize f 17 = v17 at *; generalize f 18 = v18 at *; generalize f 19 = v19 at *; generalize f 20 = v20 at *; generalize f 21 = v21 at *; generalize f 22 = v22 at *; generalize f 23 = v23 at *; generalize f 24 = v24 at *; generalize f 25 = v25 at *
          refine wpOp_step rfl (fun K hK => ?_)
          go_simp
          exact hK _ _ ⟨_, rfl, (fun p hp => by cases hp; rfl), Below.refl _ _⟩
        · obtain rfl := Option.some.inj ho
          have e0 : f 17 = (.slice (some ad) cs.length cap) := hdep ⟨0, .data⟩ (by simp) rfl
          have e1 : f 18 = (.int .i64 (m : Nat)) := hdep ⟨1, .data⟩ (by simp) rfl
          clear hdep ho hi
          generalize f 17 = v17 at *; generalize f 18 = v18 at *; generalize f 19 = v19 at *; generalize f 20 = v20 at *; generalize f 21 = v21 at *; generalize f 22 = v22 at *; generalize f 23 = v23 at *; generalize f 24 = v24 at *; generalize f 25 = v25 at *
          subst e0 e1
          refine wpOp_step rfl (fun K hK => ?_)
          go_simp
          exact hK _ _ ⟨_, rfl, (fun p hp => by cases hp; rfl), Below.refl _ _⟩
        · obtain rfl := Option.some.inj ho
          have e2 : f 19 = (.slice (some ad) m cap) := hdep ⟨2, .data⟩ (by simp) rfl
          clear hdep ho hi
          generalize f 17 = v17 at *; generalize f 18 = v18 at *; generalize f 19 = v19 at *; generalize f 20 = v20 at *; generalize f 21 = v21 at *; generalize f 22 = v22 at *; generalize f 23 = v23 at *; generalize f 24 = v24 at *; generalize f 25 = v25 at *
          subst e2
          refine wpOp_step rfl (fun K hK => ?_)
          go_simp
          refine (P1 _ hrd).mono ?_
          rintro e w' ⟨⟨r2, rfl, hv⟩, hb⟩
          exact hK _ _ ⟨_, rfl, (fun p hp => by cases hp; exact ⟨_, rfl, hv⟩), hb⟩
        · obtain rfl := Option.some.inj ho
          clear hdep ho hi
          generalize f 17 = v17 at *; generalize f 18 = v18 at *; generalize f 19 = v19 at *; generalize f 20 = v20 at *; generalize f 21 = v21 at *; generalize f 22 = v22 at *; generalize f 23 = v23 at *; generalize f 24 = v24 at *; generalize f 25 = v25 at *
          refine wpOp_step rfl (fun K hK => ?_)
          go_simp
          exact hK _ _ ⟨_, rfl, (fun p hp => by cases hp; rfl), Below.refl _ _⟩
        · obtain rfl := Option.some.inj ho
          clear hdep ho hi
          generalize f 17 = v17 at *; generalize f 18 = v18 at *; generalize f 19 = v19 at *; generalize f 20 = v20 at *; generalize f 21 = v21 at *; generalize f 22 = v22 at *; generalize f 23 = v23 at *; generalize f 24 = v24 at *; generalize f 25 = v25 at *
          refine wpOp_step rfl (fun K hK => ?_)
          go_simp
          exact hK _ _ ⟨_, rfl, (fun p hp => by cases hp; rfl), Below.refl _ _⟩
        · obtain rfl := Option.some.inj ho
          have e4 : f 21 = (.slice (some ad) cs.length cap) := hdep ⟨4, .data⟩ (by simp) rfl
          have e5 : f 22 = (.int .i64 (m : Nat)) := hdep ⟨5, .data⟩ (by simp) rfl
          clear hdep ho hi
          generalize f 17 = v17 at *; generalize f 18 = v18 at *; generalize f 19 = v19 at *; generalize f 20 = v20 at *; generalize f 21 = v21 at *; generalize f 22 = v22 at *; generalize f 23 = v23 at *; generalize f 24 = v24 at *; generalize f 25 = v25 at *
          subst e4 e5
          refine wpOp_step rfl (fun K hK => ?_)
          go_simp
          exact hK _ _ ⟨_, rfl, (fun p hp => by cases hp; rfl), Below.refl _ _⟩
        · obtain rfl := Option.some.inj ho
          have e6 : f 23 = (.slice (some (ad.add m)) (cs.length - m) (cap - m)) := hdep ⟨6, .data⟩ (by simp) rfl
          clear hdep ho hi
          generalize f 17 = v17 at *; generalize f 18 = v18 at *; generalize f 19 = v19 at *; generalize f 20 = v20 at *; generalize f 21 = v21 at *; generalize f 22 = v22 at *; generalize f 23 = v23 at *; generalize f 24 = v24 at *; generalize f 25 = v25 at *
          subst e6
          refine wpOp_step rfl (fun K hK => ?_)
          go_simp
          refine (P2 _ hrd).mono ?_
          rintro e w' ⟨⟨r2, rfl, hv⟩, hb⟩
          exact hK _ _ ⟨_, rfl, (fun p hp => by cases hp; exact ⟨_, rfl, hv⟩), hb⟩
        · obtain rfl := Option.some.inj ho
          obtain ⟨r3, e3, hv3⟩ : isFlt _ _ (f 20) w1 := hdep ⟨3, .data⟩ (by simp) rfl
          obtain ⟨r7, e7, hv7⟩ : isFlt _ _ (f 24) w1 := hdep ⟨7, .data⟩ (by simp) rfl
          clear hdep ho hi
          generalize f 17 = v17 at *; generalize f 18 = v18 at *; generalize f 19 = v19 at *; generalize f 20 = v20 at *; generalize f 21 = v21 at *; generalize f 22 = v22 at *; generalize f 23 = v23 at *; generalize f 24 = v24 at *; generalize f 25 = v25 at *
          subst e3 e7
          refine wpOp_step rfl (fun K hK => ?_)
          go_simp
          (with_reducible apply upon_float_bin); exact rfl; exact hv3; exact hv7; intro r n hr
          exact hK _ _ ⟨_, rfl, (fun p hp => by cases hp; exact ⟨_, rfl, hr⟩), below_drewN (Below.refl _ _) _⟩
      · intro f w1 hI hF
        simp only [List.map_cons, List.map_nil, mix, List.contains_cons, List.contains_nil, Nat.reduceBEq, Bool.or_true, Bool.or_false, Bool.false_eq_true, if_true, if_false, Nat.reduceAdd, Nat.zero_add]
        obtain ⟨_, hbw1⟩ := hI
        obtain ⟨r2, e8, hr2⟩ : isFlt _ _ (f 25) w1 := hF 8 (by simp)
        clear hF
        generalize f 17 = v17 at *; generalize f 18 = v18 at *; generalize f 19 = v19 at *; generalize f 20 = v20 at *; generalize f 21 = v21 at *; generalize f 22 = v22 at *; generalize f 23 = v23 at *; generalize f 24 = v24 at *; generalize f 25 = v25 at *
        subst e8
        change wpAny _ _ _ _ (0 + 1) _ _ _
        refine wpAny_all (rs := [9]) (by kernel_rfl) (by simp) ?_
        intro i hi
        obtain rfl : i = 9 := by simpa using hi
        clear hi
        refine wpOp_step rfl (fun K hK => ?_)
        go_simp
        refine hK _ _ (wpAny_done (by kernel_rfl) ?_ _)
        clear hK K
        go_wp2_with fail
        go_ret
        exact ⟨⟨_, rfl, hr2⟩, hbw1⟩

set_option maxHeartbeats 4000000 in
theorem c_spec_l01SumPairs : ∀ (u : Nat) {w : World} {As : Option Addr} {cap : Nat} {cs : List (Option Nat)} (h : RdC w As cs) (hn : cs.length < u) (hu : u ≤ 257) (hcap : cs.length ≤ cap) (hcap2 : cap ≤ 1048576),
    Calls Try.prog 32 #[.slice As cs.length cap] w (RetF .f32 (pairsF u cs) w) := by
  intro u
  induction u with
  | zero => intro w As cap cs h hn; omega
  | succ u ih =>
    intro w As cap cs h hn hu hcap hcap2
    by_cases h0 : cs.length = 0
    · have e : pairsF (u + 1) cs = some 0 := by rw [pairsF, if_pos h0]
      rw [e]
      rw [h0]
      clear ih h hn hcap h0 e
      go_enter Try.func32, Try.ntmps32
      go_wp2
      go_ret
      exact ⟨⟨_, rfl, (fvc rfl : Fv .f32 0 (some 0))⟩, by (repeat (first | exact Below.refl _ _ | (refine below_drewN ?_ _) | (refine Below.drew ?_) | (refine Below.setCell ?_ (by first | omega | (simp; try omega)) _) | (refine Below.alloc ?_ (by first | omega | (simp; try omega)) _) | (refine Below.trans ?_ (Below.mono (by assumption) (by first | omega | (simp; try omega))))))⟩
    by_cases h1 : cs.length = 1
    · have e : pairsF (u + 1) cs = cs.getD 0 none := by rw [pairsF, if_neg h0, if_pos h1]
      rw [e]
      obtain ⟨ad, z, rfl, hc, hz⟩ := h.at_ (k := 0) (by omega)
      have hc2 := hc.2
      rw [Addr.add_zero'] at hc2
      rw [h1]
      clear ih h hn hcap h0 e hc h1
      go_enter Try.func32, Try.ntmps32
      go_wp2
      go_ret
      exact ⟨⟨_, rfl, hz⟩, by (repeat (first | exact Below.refl _ _ | (refine below_drewN ?_ _) | (refine Below.drew ?_) | (refine Below.setCell ?_ (by first | omega | (simp; try omega)) _) | (refine Below.alloc ?_ (by first | omega | (simp; try omega)) _) | (refine Below.trans ?_ (Below.mono (by assumption) (by first | omega | (simp; try omega))))))⟩
    · have e : pairsF (u + 1) cs = A (pairsF u (cs.take ((cs.length + 1) / 2))) (pairsF u (cs.drop ((cs.length + 1) / 2))) := by rw [pairsF, if_neg h0, if_neg h1]
      rw [e]
      clear e
      have hm : ((cs.length : Int) + 1) / 2 = (((cs.length + 1) / 2 : Nat) : Int) := by omega
      have hmd : ((cs.length : Int) + 1).tdiv 2 = (((cs.length + 1) / 2 : Nat) : Int) := by rw [← hm]; exact Int.tdiv_eq_ediv_of_nonneg (by omega)
      generalize hmm : (cs.length + 1) / 2 = m at *
      have b1 : 1 ≤ m := by omega
      have b2 : m < cs.length := by omega
      have b3 : m < cap := by omega
      have b4 : cap ≠ m := by omega
      have b5 : 2 ≤ cs.length := by omega
      obtain ⟨ad, z, rfl, hc, hz⟩ := h.at_ (k := 0) (by omega)
      have P1 : ∀ w1, RdC w1 (some ad) cs → Calls Try.prog 32 #[.slice (some ad) m cap] w1 (RetF .f32 (pairsF u (cs.take m)) w1) := by
        intro w1 hr
        have hl : (cs.take m).length = m := by rw [List.length_take]; omega
        have := ih (cap := cap) (hr.take m) (by omega) (by omega) (by omega) hcap2
        rwa [hl] at this
      have P2 : ∀ w1, RdC w1 (some ad) cs → Calls Try.prog 32 #[.slice (some (ad.add m)) (cs.length - m) (cap - m)] w1 (RetF .f32 (pairsF u (cs.drop m)) w1) := by
        intro w1 hr
        have hl : (cs.drop m).length = cs.length - m := List.length_drop
        have := ih (cap := cap - m) (hr.drop m) (by omega) (by omega) (by omega) (by omega)
        rwa [hl] at this
      have i1 : (((cs.length : Nat) : Int) == 0) = false := beq_eq_false_iff_ne.2 (by omega)
      have i2 : (((cs.length : Nat) : Int) == 1) = false := beq_eq_false_iff_ne.2 (by omega)
      have b6 : m ≤ cap := by omega
      have b7 : m ≤ cs.length := by omega
      have HN := Lib.hid (And.intro hc (And.intro hz hmm))
      clear ih hc hz hmm
      go_enter Try.func32, Try.ntmps32
      go_upto_region 7 with fail
      have hbA := Below.refl w.heap.size w
      refine wp_region_drawn [(17, isV (.slice (some ad) cs.length cap)), (18, isV (.int .i64 (m : Nat))), (19, isV (.slice (some ad) m cap)), (20, isFlt .f32 (pairsF u (cs.take m))), (21, isV (.slice (some ad) cs.length cap)), (22, isV (.int .i64 (m : Nat))), (23, isV (.slice (some (ad.add m)) (cs.length - m) (cap - m))), (24, isFlt .f32 (pairsF u (cs.drop m))), (25, isFlt .f32 (A (pairsF u (cs.take m)) (pairsF u (cs.drop m))))]
        (fun wr => RdC wr (some ad) cs ∧ Below w.heap.size w wr)
        (by kernel_rfl) (by kernel_rfl) (by kernel_rfl) (by kernel_rfl) (Nat.le_of_ble_eq_true (by kernel_rfl)) (by kernel_rfl) ?_ (fun _ _ hb ⟨hrd, hbw⟩ => ⟨hrd.below hb, hbw.trans (hb.mono hbw.size)⟩) ⟨h.below (Below.refl _ _).drew, (Below.refl _ _).drew⟩ ?_ ?_
      · intro p hp
        simp only [List.mem_cons, List.not_mem_nil, or_false] at hp
        rcases hp with rfl | rfl | rfl | rfl | rfl | rfl | rfl | rfl | rfl <;> first | exact mono_isV _ | exact mono_isFlt _ _
      · intro i o hi ho f w1 hI hdep
        simp only [List.map_cons, List.map_nil, mix, List.contains_cons, List.contains_nil, Nat.reduceBEq, Bool.or_true, Bool.or_false, Bool.false_eq_true, if_true, if_false, Nat.reduceAdd, Nat.zero_add]
        have hcase : i = 0 ∨ i = 1 ∨ i = 2 ∨ i = 3 ∨ i = 4 ∨ i = 5 ∨ i = 6 ∨ i = 7 ∨ i = 8 := by simp at hi; omega
        obtain ⟨hrd, hbw⟩ := hI
        rcases hcase with rfl | rfl | rfl | rfl | rfl | rfl | rfl | rfl | rfl
        · obtain rfl := Option.some.inj ho
          clear hdep ho hi
          generalize f 17 = v17 at *; generalize f 18 = v18 at *; generalize f 19 = v19 at *; generalize f 20 = v20 at *; generalize f 21 = v21 at *; generalize f 22 = v22 at *; generalize f 23 = v23 at *; generalize f 24 = v24 at *; generalize f 25 = v25 at *
          refine wpOp_step rfl (fun K hK => ?_)
          go_simp
          exact hK _ _ ⟨_, rfl, (fun p hp => by cases hp; rfl), Below.refl _ _⟩
        · obtain rfl := Option.some.inj ho
          clear hdep ho hi
          generalize f 17 = v17 at *; generalize f 18 = v18 at *; generalize f 19 = v19 at *; generalize f 20 = v20 at *; generalize f 21 = v21 at *; generalize f 22 = v22 at *; generalize f 23 = v23 at *; generalize f 24 = v24 at *; generalize f 25 = v25 at *
          refine wpOp_step rfl (fun K hK => ?_)
          go_simp
          exact hK _ _ ⟨_, rfl, (fun p hp => by cases hp; rfl), Below.refl _ _⟩
        · obtain rfl := Option.some.inj ho
          have e0 : f 17 = (.slice (some ad) cs.length cap) := hdep ⟨0, .data⟩ (by simp) rfl
          have e1 : f 18 = (.int .i64 (m : Nat)) := hdep ⟨1, .data⟩ (by simp) rfl
          clear hdep ho hi
          generalize f 17 = v17 at *; generalize f 18 = v18 at *; generalize f 19 = v19 at *; generalize f 20 = v20 at *; generalize f 21 = v21 at *; generalize f 22 = v22 at *; generalize f 23 = v23 at *; generalize f 24 = v24 at *; generalize f 25 = v25 at *
          subst e0 e1
          refine wpOp_step rfl (fun K hK => ?_)
          go_simp
          exact hK _ _ ⟨_, rfl, (fun p hp => by cases hp; rfl), Below.refl _ _⟩
        · obtain rfl := Option.some.inj ho
          have e2 : f 19 = (.slice (some ad) m cap) := hdep ⟨2, .data⟩ (by simp) rfl
          clear hdep ho hi
          generalize f 17 = v17 at *; generalize f 18 = v18 at *; generalize f 19 = v19 at *; generalize f 20 = v20 at *; generalize f 21 = v21 at *; generalize f 22 = v22 at *; generalize f 23 = v23 at *; generalize f 24 = v24 at *; generalize f 25 = v25 at *
          subst e2
          refine wpOp_step rfl (fun K hK => ?_)
          go_simp
          refine (P1 _ hrd).mono ?_
          rintro e w' ⟨⟨r2, rfl, hv⟩, hb⟩
          exact hK _ _ ⟨_, rfl, (fun p hp => by cases hp; exact ⟨_, rfl, hv⟩), hb⟩
        · obtain rfl := Option.some.inj ho
          clear hdep ho hi
          generalize f 17 = v17 at *; generalize f 18 = v18 at *; generalize f 19 = v19 at *; generalize f 20 = v20 at *; generalize f 21 = v21 at *; generalize f 22 = v22 at *; generalize f 23 = v23 at *; generalize f 24 = v24 at *; generalize f 25 = v25 at *
          refine wpOp_step rfl (fun K hK => ?_)
          go_simp
          exact hK _ _ ⟨_, rfl, (fun p hp => by cases hp; rfl), Below.refl _ _⟩
        · obtain rfl := Option.some.inj ho
          clear hdep ho hi
          generalize f 17 = v17 at *; generalize f 18 = v18 at *; generalize f 19 = v19 at *; generalize f 20 = v20 at *; generalize f 21 = v21 at *; generalize f 22 = v22 at *; generalize f 23 = v23 at *; generalize f 24 = v24 at *; generalize f 25 = v25 at *
          refine wpOp_step rfl (fun K hK => ?_)
          go_simp
          exact hK _ _ ⟨_, rfl, (fun p hp => by cases hp; rfl), Below.refl _ _⟩
        · obtain rfl := Option.some.inj ho
          have e4 : f 21 = (.slice (some ad) cs.length cap) := hdep ⟨4, .data⟩ (by simp) rfl
          have e5 : f 22 = (.int .i64 (m : Nat)) := hdep ⟨5, .data⟩ (by simp) rfl
          clear hdep ho hi
          generalize f 17 = v17 at *; generalize f 18 = v18 at *; generalize f 19 = v19 at *; generalize f 20 = v20 at *; generalize f 21 = v21 at *; generalize f 22 = v22 at *; generalize f 23 = v23 at *; generalize f 24 = v24 at *; generalize f 25 = v25 at *
          subst e4 e5
          refine wpOp_step rfl (fun K hK => ?_)
          go_simp
          exact hK _ _ ⟨_, rfl, (fun p hp => by cases hp; rfl), Below.refl _ _⟩
        · obtain rfl := Option.some.inj ho
          have e6 : f 23 = (.slice (some (ad.add m)) (cs.length - m) (cap - m)) := hdep ⟨6, .data⟩ (by simp) rfl
          clear hdep ho hi
          generalize f 17 = v17 at *; generalize f 18 = v18 at *; generalize f 19 = v19 at *; generalize f 20 = v20 at *; generalize f 21 = v21 at *; generalize f 22 = v22 at *; generalize f 23 = v23 at *; generalize f 24 = v24 at *; generalize f 25 = v25 at *
          subst e6
          refine wpOp_step rfl (fun K hK => ?_)
          go_simp
          refine (P2 _ hrd).mono ?_
          rintro e w' ⟨⟨r2, rfl, hv⟩, hb⟩
          exact hK _ _ ⟨_, rfl, (fun p hp => by cases hp; exact ⟨_, rfl, hv⟩), hb⟩
        · obtain rfl := Option.some.inj ho
          obtain ⟨r3, e3, hv3⟩ : isFlt _ _ (f 20) w1 := hdep ⟨3, .data⟩ (by simp) rfl
          obtain ⟨r7, e7, hv7⟩ : isFlt _ _ (f 24) w1 := hdep ⟨7, .data⟩ (by simp) rfl
          clear hdep ho hi
          generalize f 17 = v17 at *; generalize f 18 = v18 at *; generalize f 19 = v19 at *; generalize f 20 = v20 at *; generalize f 21 = v21 at *; generalize f 22 = v22 at *; generalize f 23 = v23 at *; generalize f 24 = v24 at *; generalize f 25 = v25 at *
          subst e3 e7
          refine wpOp_step rfl (fun K hK => ?_)
          go_simp
          (with_reducible apply upon_float_bin); exact rfl; exact hv3; exact hv7; intro r n hr
          exact hK _ _ ⟨_, rfl, (fun p hp => by cases hp; exact ⟨_, rfl, hr⟩), below_drewN (Below.refl _ _) _⟩
      · intro f w1 hI hF
        simp only [List.map_cons, List.map_nil, mix, List.contains_cons, List.contains_nil, Nat.reduceBEq, Bool.or_true, Bool.or_false, Bool.false_eq_true, if_true, if_false, Nat.reduceAdd, Nat.zero_add]
        obtain ⟨_, hbw1⟩ := hI
        obtain ⟨r2, e8, hr2⟩ : isFlt _ _ (f 25) w1 := hF 8 (by simp)
        clear hF
        generalize f 17 = v17 at *; generalize f 18 = v18 at *; generalize f 19 = v19 at *; generalize f 20 = v20 at *; generalize f 21 = v21 at *; generalize f 22 = v22 at *; generalize f 23 = v23 at *; generalize f 24 = v24 at *; generalize f 25 = v25 at *
        subst e8
        change wpAny _ _ _ _ (0 + 1) _ _ _
        refine wpAny_all (rs := [9]) (by kernel_rfl) (by simp) ?_
        intro i hi
        obtain rfl : i = 9 := by simpa using hi
        clear hi
        refine wpOp_step rfl (fun K hK => ?_)
        go_simp
        refine hK _ _ (wpAny_done (by kernel_rfl) ?_ _)
        clear hK K
        go_wp2_with fail
        go_ret
        exact ⟨⟨_, rfl, hr2⟩, hbw1⟩

theorem c_impl_SumPairs {w : World} {As : Option Addr} {cap : Nat} {cs : List (Option Nat)} (h : RdC w As cs) (hn : cs.length ≤ 256) (hcap : cs.length ≤ cap) (hcap2 : cap ≤ 1048576) :
    Calls Try.prog 20 #[.slice As cs.length cap] w (RetFB (pairsF 257 cs) true w) := by
  have H := c_impl_sumPairs 257 (cap := cap) h (by omega) (by omega) hcap hcap2
  clear h
  go_enter Try.func20, Try.ntmps20
  go_wp2_with fail
  refine H.mono ?_; rintro e w' ⟨⟨r, rfl, hr⟩, hb⟩
  go_wp2_with fail
  go_ret2
  exact ⟨⟨_, rfl, hr⟩, hb⟩
theorem many_impl_SumPairs {w : World} {As : Option Addr} {n cap : Nat} (hn : 256 < n) :
    Calls Try.prog 20 #[.slice As n cap] w (RetFB (some 0) false w) := by
  go_enter Try.func20, Try.ntmps20
  go_wp2_with fail
  go_ret2
  exact ⟨⟨_, rfl, (fvc rfl : Fv .f32 0 (some 0))⟩, by (repeat (first | exact Below.refl _ _ | (refine below_drewN ?_ _) | (refine Below.drew ?_) | (refine Below.setCell ?_ (by first | omega | (simp; try omega)) _) | (refine Below.alloc ?_ (by first | omega | (simp; try omega)) _) | (refine Below.trans ?_ (Below.mono (by assumption) (by first | omega | (simp; try omega))))))⟩

theorem c_spec_SumPairs {w : World} {As : Option Addr} {cap : Nat} {cs : List (Option Nat)} (h : RdC w As cs) (hn : cs.length ≤ 256) (hcap : cs.length ≤ cap) (hcap2 : cap ≤ 1048576) :
    Calls Try.prog 19 #[.slice As cs.length cap] w (RetFB (pairsF 257 cs) true w) := by
  have H := c_spec_l01SumPairs 257 (cap := cap) h (by omega) (by omega) hcap hcap2
  clear h
  go_enter Try.func19, Try.ntmps19
  go_wp2_with fail
  refine (few_yes hn _).mono ?_; rintro e w' ⟨rfl, rfl⟩
  go_wp2_with fail
  refine H.mono ?_; rintro e w' ⟨⟨r, rfl, hr⟩, hb⟩
  go_wp2_with fail
  go_ret2
  exact ⟨⟨_, rfl, hr⟩, hb⟩
theorem many_spec_SumPairs {w : World} {As : Option Addr} {n cap : Nat} (hn : 256 < n) :
    Calls Try.prog 19 #[.slice As n cap] w (RetFB (some 0) false w) := by
  go_enter Try.func19, Try.ntmps19
  go_wp2_with fail
  refine (few_no hn _).mono ?_; rintro e w' ⟨rfl, rfl⟩
  go_wp2_with fail
  go_ret2
  exact ⟨⟨_, rfl, (fvc rfl : Fv .f32 0 (some 0))⟩, by (repeat (first | exact Below.refl _ _ | (refine below_drewN ?_ _) | (refine Below.drew ?_) | (refine Below.setCell ?_ (by first | omega | (simp; try omega)) _) | (refine Below.alloc ?_ (by first | omega | (simp; try omega)) _) | (refine Below.trans ?_ (Below.mono (by assumption) (by first | omega | (simp; try omega))))))⟩

end Go.Proofs.Ytpfijbgkhekjfab
