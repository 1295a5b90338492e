/-
  Slices of float32: copied, compared. No condition.
-/
import Derived.Test.YteibkechlkjpgabDoorVb
import Derived.Test.YteibkechlkjpgabDoorFd
import Derived.Deep.Slices
set_option linter.unusedVariables false
namespace Go.Proofs.YteibkechlkjpgabDoor
open Go.RowKit Go.Proofs.YteibkechlkjpgabDoor.Fl

/-- The slice from address A holds floats of the classes cs. -/
def RdC (w : World) (A : Option Addr) (cs : List (Option Nat)) : Prop :=
  ∀ i, i < cs.length → ∃ ad z, A = some ad ∧ ad.block < w.heap.size ∧ w.cell? (ad.add i) = some (.float .f32 z) ∧ Fv .f32 z (cs.getD i none)

theorem addr_block (a : Addr) (n : Nat) : (a.add n).block = a.block := by unfold Addr.add; split <;> rfl
theorem addr_add (a : Addr) (i j : Nat) : (a.add i).add j = a.add (i + j) := by
  unfold Addr.add
  by_cases hi : i = 0 <;> by_cases hj : j = 0 <;> simp [hi, hj, Nat.add_assoc]

theorem RdC.below {w w' : World} {A : Option Addr} {cs : List (Option Nat)} (h : RdC w A cs) (hb : Below w.heap.size w w') : RdC w' A cs := by
  intro i hi
  obtain ⟨ad, z, h1, h2, h3, h4⟩ := h i hi
  exact ⟨ad, z, h1, Nat.lt_of_lt_of_le h2 hb.size, (hb.cell (p := ad.add i) (by rw [addr_block]; exact h2)).trans h3, h4⟩

/-- A cell that is there. -/
def Cel (w : World) (p : Addr) (v : Value) : Prop := p.block < w.heap.size ∧ w.cell? p = some v
theorem Cel.below {w w' : World} {p : Addr} {v : Value} (h : Cel w p v) (hb : Below w.heap.size w w') : Cel w' p v := ⟨Nat.lt_of_lt_of_le h.1 hb.size, (hb.cell h.1).trans h.2⟩

theorem RdC.at_ {w : World} {A : Option Addr} {cs : List (Option Nat)} (h : RdC w A cs) {k : Nat} (hk : k < cs.length) : ∃ ad z, A = some ad ∧ Cel w (ad.add k) (.float .f32 z) ∧ Fv .f32 z (cs.getD k none) := by
  obtain ⟨ad, z, h1, h2, h3, h4⟩ := h k hk
  exact ⟨ad, z, h1, ⟨by rw [addr_block]; exact h2, h3⟩, h4⟩

/-- A row of floats that the call has made at block g, its first k of the classes cs. -/
structure Row (wr : World) (g k : Nat) (cs : List (Option Nat)) : Prop where
  lt : g < wr.heap.size
  cell : ∀ j, j < cs.length → ∃ z, wr.cell? ⟨g, j, none⟩ = some (.float .f32 z) ∧ (j < k → Fv .f32 z (cs.getD j none))
  frozen : ∀ o, wr.frozen? ⟨g, o, none⟩ = false

theorem Row.rd {wr : World} {g : Nat} {cs : List (Option Nat)} (h : Row wr g cs.length cs) : RdC wr (some ⟨g, 0, none⟩) cs := by
  intro i hi
  obtain ⟨z, h1, h2⟩ := h.cell i hi
  refine ⟨_, z, rfl, h.lt, ?_, h2 hi⟩
  rw [Addr.add_lit, Nat.zero_add]
  exact h1

theorem Row.below {w w' : World} {g k : Nat} {cs : List (Option Nat)} (h : Row w g k cs) (hb : Below w.heap.size w w') : Row w' g k cs :=
  ⟨Nat.lt_of_lt_of_le h.lt hb.size, fun j hj => by
    obtain ⟨z, h1, h2⟩ := h.cell j hj
    exact ⟨z, (hb.cell (p := ⟨g, j, none⟩) h.lt).trans h1, h2⟩, fun o => (hb.frozen (p := ⟨g, o, none⟩) h.lt).trans (h.frozen o)⟩

theorem Row.new (w : World) (cs : List (Option Nat)) (t : TypeId) : Row (w.alloc (.cells (madeCells #[.float .f32 0] (cs.length * 1)) t)) w.heap.size 0 cs := by
  refine ⟨by simp, fun j hj => ⟨0, ?_, fun h => absurd h (by omega)⟩, fun o => by simp⟩
  have h1 : (madeCells #[.float .f32 0] (cs.length * 1))[j]? = some (.float .f32 0) := by
    rw [Nat.mul_one, ← Array.getElem?_toList, toList_madeCells_one]
    simp [hj]
  simpa using h1

theorem Row.step {wr : World} {g k : Nat} {cs : List (Option Nat)} (h : Row wr g k cs) {z : Nat} (hk : k < cs.length) (hz : Fv .f32 z (cs.getD k none)) : Row (wr.setCell ⟨g, k, none⟩ (.float .f32 z)) g (k + 1) cs := by
  refine ⟨by simpa using h.lt, fun j hj => ?_, fun o => by simpa using h.frozen o⟩
  by_cases e : j = k
  · subst e
    obtain ⟨z0, h1, _⟩ := h.cell j hj
    exact ⟨z, by go_simp, fun _ => hz⟩
  · obtain ⟨z0, h1, h2⟩ := h.cell j hj
    have hne : (⟨g, k, none⟩ : Addr) ≠ ⟨g, j, none⟩ := by intro c; cases c; exact e rfl
    exact ⟨z0, by rw [← h1]; go_simp, fun hlt => h2 (by omega)⟩

theorem info22 : (Tryd.prog.info? 28).map (fun i => (i.zero, i.size, i.bytes)) = some (some (.float .f32 0), 1, 4) := by kernel_rfl

/-- A slice of one's own comes back. -/
def RetRow (cs : List (Option Nat)) (w : World) (e : Ending) (w' : World) : Prop := ∃ g, e = .returned (.slice (some ⟨g, 0, none⟩) cs.length cs.length) ∧ w.heap.size ≤ g ∧ Row w' g cs.length cs ∧ Below w.heap.size w w'


set_option maxRecDepth 20000 in
set_option maxHeartbeats 4000000 in
theorem c_eqF {w : World} {A B : Option Addr} {cap cap2 : Nat} {cs : List (Option Nat)} (h : RdC w A cs) (k2 : RdC w B cs) (hn : cs.length ≤ 1048576) :
    Calls Tryd.prog 7 #[.slice A cs.length cap, .slice B cs.length cap2] w (RetB true w) := by
  go_enter Tryd.func7, Tryd.ntmps7
  go_wp2
  go_loopw [5] (fun i wr => ∃ k : Nat, k ≤ cs.length ∧ i = .int .i64 k ∧ Below w.heap.size w wr) (fun i _ => cs.length - (intOf i).toNat)
  case atStart => exact ⟨0, Nat.zero_le _, rfl, Below.refl _ _⟩
  case round =>
    obtain ⟨k, hk, rfl, hbw⟩ := hrel
    by_cases hlt : k < cs.length
    · obtain ⟨ad, za, rfl, hca0, hza⟩ := (h.below hbw).at_ hlt
      obtain ⟨bd, zb, rfl, hcb0, hzb⟩ := (k2.below hbw).at_ hlt
      have HN := Lib.hid (And.intro h k2)
      clear h k2
      go_wp2_with fail
      refine wp_region_drawn [(17, isV (.slice (some ad) cs.length cap)), (18, isV (.int .i64 k)), (19, isV (.pointer (some (ad.add k)))), (20, isV (.float .f32 za)), (21, isFlt .f64 (fconv .f32 .f64 (cs.getD k none))), (22, isV (.slice (some bd) cs.length cap2)), (23, isV (.int .i64 k)), (24, isV (.pointer (some (bd.add k)))), (25, isV (.float .f32 zb)), (26, isFlt .f64 (fconv .f32 .f64 (cs.getD k none))), (27, isV (.bool true)), (28, isV (.bool false))]
        (fun wr => Cel wr (ad.add k) (.float .f32 za) ∧ Cel wr (bd.add k) (.float .f32 zb) ∧ Below w.heap.size w wr)
        (by kernel_rfl) (by kernel_rfl) (by kernel_rfl) (by kernel_rfl) (Nat.le_of_ble_eq_true (by kernel_rfl)) (by kernel_rfl) ?_ (fun _ _ hb ⟨⟨hca1, hca⟩, ⟨hcb1, hcb⟩, hbw⟩ => ⟨Cel.below ⟨hca1, hca⟩ hb, Cel.below ⟨hcb1, hcb⟩ hb, hbw.trans (hb.mono hbw.size)⟩) ⟨hca0, hcb0, hbw.drew⟩ ?_ ?_
      · intro p hp
        simp only [List.mem_cons, List.not_mem_nil, or_false] at hp
        rcases hp with rfl | rfl | rfl | rfl | rfl | rfl | rfl | rfl | rfl | rfl | rfl | rfl <;> first | exact mono_isV _ | exact mono_isFlt _ _
      · intro i o hi ho f w1 hI hdep
        simp only [List.map_cons, List.map_nil, mix, List.contains_cons, List.contains_nil, Nat.reduceBEq, Bool.or_true, Bool.or_false, Bool.false_eq_true, if_true, if_false, Nat.reduceAdd, Nat.zero_add]
        have hcase : i = 0 ∨ i = 1 ∨ i = 2 ∨ i = 3 ∨ i = 4 ∨ i = 5 ∨ i = 6 ∨ i = 7 ∨ i = 8 ∨ i = 9 ∨ i = 10 ∨ i = 11 := by simp at hi; omega
        obtain ⟨⟨hca1, hca⟩, ⟨hcb1, hcb⟩, hbw⟩ := hI
        rcases hcase with rfl | rfl | rfl | rfl | rfl | rfl | rfl | rfl | rfl | rfl | rfl | rfl
        · obtain rfl := Option.some.inj ho
          clear hdep ho hi
          generalize f 17 = v17 at *; generalize f 18 = v18 at *; generalize f 19 = v19 at *; generalize f 20 = v20 at *; generalize f 21 = v21 at *; generalize f 22 = v22 at *; generalize f 23 = v23 at *; generalize f 24 = v24 at *; generalize f 25 = v25 at *; generalize f 26 = v26 at *; generalize f 27 = v27 at *; generalize f 28 = v28 at *
          refine wpOp_step rfl (fun K hK => ?_)
          go_simp
          exact hK _ _ ⟨_, rfl, (fun p hp => by cases hp; rfl), Below.refl _ _⟩
        · obtain rfl := Option.some.inj ho
          clear hdep ho hi
          generalize f 17 = v17 at *; generalize f 18 = v18 at *; generalize f 19 = v19 at *; generalize f 20 = v20 at *; generalize f 21 = v21 at *; generalize f 22 = v22 at *; generalize f 23 = v23 at *; generalize f 24 = v24 at *; generalize f 25 = v25 at *; generalize f 26 = v26 at *; generalize f 27 = v27 at *; generalize f 28 = v28 at *
          refine wpOp_step rfl (fun K hK => ?_)
          go_simp
          exact hK _ _ ⟨_, rfl, (fun p hp => by cases hp; rfl), Below.refl _ _⟩
        · obtain rfl := Option.some.inj ho
          have e0 : f 17 = (.slice (some ad) cs.length cap) := hdep ⟨0, .data⟩ (by simp) rfl
          have e1 : f 18 = (.int .i64 k) := hdep ⟨1, .data⟩ (by simp) rfl
          clear hdep ho hi
          generalize f 17 = v17 at *; generalize f 18 = v18 at *; generalize f 19 = v19 at *; generalize f 20 = v20 at *; generalize f 21 = v21 at *; generalize f 22 = v22 at *; generalize f 23 = v23 at *; generalize f 24 = v24 at *; generalize f 25 = v25 at *; generalize f 26 = v26 at *; generalize f 27 = v27 at *; generalize f 28 = v28 at *
          subst e0 e1
          refine wpOp_step rfl (fun K hK => ?_)
          go_simp
          exact hK _ _ ⟨_, rfl, (fun p hp => by cases hp; rfl), Below.refl _ _⟩
        · obtain rfl := Option.some.inj ho
          have e2 : f 19 = (.pointer (some (ad.add k))) := hdep ⟨2, .data⟩ (by simp) rfl
          clear hdep ho hi
          generalize f 17 = v17 at *; generalize f 18 = v18 at *; generalize f 19 = v19 at *; generalize f 20 = v20 at *; generalize f 21 = v21 at *; generalize f 22 = v22 at *; generalize f 23 = v23 at *; generalize f 24 = v24 at *; generalize f 25 = v25 at *; generalize f 26 = v26 at *; generalize f 27 = v27 at *; generalize f 28 = v28 at *
          subst e2
          refine wpOp_step rfl (fun K hK => ?_)
          go_simp
          exact hK _ _ ⟨_, rfl, (fun p hp => by cases hp; rfl), Below.refl _ _⟩
        · obtain rfl := Option.some.inj ho
          have e3 : f 20 = (.float .f32 za) := hdep ⟨3, .data⟩ (by simp) rfl
          clear hdep ho hi
          generalize f 17 = v17 at *; generalize f 18 = v18 at *; generalize f 19 = v19 at *; generalize f 20 = v20 at *; generalize f 21 = v21 at *; generalize f 22 = v22 at *; generalize f 23 = v23 at *; generalize f 24 = v24 at *; generalize f 25 = v25 at *; generalize f 26 = v26 at *; generalize f 27 = v27 at *; generalize f 28 = v28 at *
          subst e3
          refine wpOp_step rfl (fun K hK => ?_)
          go_simp
          (with_reducible apply upon_float_conv); exact f32some; exact Tryd.underlying39; exact hza; exact fits_widen hza; intro r n hr
          exact hK _ _ ⟨_, rfl, (fun p hp => by cases hp; exact ⟨_, rfl, hr⟩), below_drewN (Below.refl _ _) _⟩
        · obtain rfl := Option.some.inj ho
          clear hdep ho hi
          generalize f 17 = v17 at *; generalize f 18 = v18 at *; generalize f 19 = v19 at *; generalize f 20 = v20 at *; generalize f 21 = v21 at *; generalize f 22 = v22 at *; generalize f 23 = v23 at *; generalize f 24 = v24 at *; generalize f 25 = v25 at *; generalize f 26 = v26 at *; generalize f 27 = v27 at *; generalize f 28 = v28 at *
          refine wpOp_step rfl (fun K hK => ?_)
          go_simp
          exact hK _ _ ⟨_, rfl, (fun p hp => by cases hp; rfl), Below.refl _ _⟩
        · obtain rfl := Option.some.inj ho
          clear hdep ho hi
          generalize f 17 = v17 at *; generalize f 18 = v18 at *; generalize f 19 = v19 at *; generalize f 20 = v20 at *; generalize f 21 = v21 at *; generalize f 22 = v22 at *; generalize f 23 = v23 at *; generalize f 24 = v24 at *; generalize f 25 = v25 at *; generalize f 26 = v26 at *; generalize f 27 = v27 at *; generalize f 28 = v28 at *
          refine wpOp_step rfl (fun K hK => ?_)
          go_simp
          exact hK _ _ ⟨_, rfl, (fun p hp => by cases hp; rfl), Below.refl _ _⟩
        · obtain rfl := Option.some.inj ho
          have e5 : f 22 = (.slice (some bd) cs.length cap2) := hdep ⟨5, .data⟩ (by simp) rfl
          have e6 : f 23 = (.int .i64 k) := hdep ⟨6, .data⟩ (by simp) rfl
          clear hdep ho hi
          generalize f 17 = v17 at *; generalize f 18 = v18 at *; generalize f 19 = v19 at *; generalize f 20 = v20 at *; generalize f 21 = v21 at *; generalize f 22 = v22 at *; generalize f 23 = v23 at *; generalize f 24 = v24 at *; generalize f 25 = v25 at *; generalize f 26 = v26 at *; generalize f 27 = v27 at *; generalize f 28 = v28 at *
          subst e5 e6
          refine wpOp_step rfl (fun K hK => ?_)
          go_simp
          exact hK _ _ ⟨_, rfl, (fun p hp => by cases hp; rfl), Below.refl _ _⟩
        · obtain rfl := Option.some.inj ho
          have e7 : f 24 = (.pointer (some (bd.add k))) := hdep ⟨7, .data⟩ (by simp) rfl
          clear hdep ho hi
          generalize f 17 = v17 at *; generalize f 18 = v18 at *; generalize f 19 = v19 at *; generalize f 20 = v20 at *; generalize f 21 = v21 at *; generalize f 22 = v22 at *; generalize f 23 = v23 at *; generalize f 24 = v24 at *; generalize f 25 = v25 at *; generalize f 26 = v26 at *; generalize f 27 = v27 at *; generalize f 28 = v28 at *
          subst e7
          refine wpOp_step rfl (fun K hK => ?_)
          go_simp
          exact hK _ _ ⟨_, rfl, (fun p hp => by cases hp; rfl), Below.refl _ _⟩
        · obtain rfl := Option.some.inj ho
          have e8 : f 25 = (.float .f32 zb) := hdep ⟨8, .data⟩ (by simp) rfl
          clear hdep ho hi
          generalize f 17 = v17 at *; generalize f 18 = v18 at *; generalize f 19 = v19 at *; generalize f 20 = v20 at *; generalize f 21 = v21 at *; generalize f 22 = v22 at *; generalize f 23 = v23 at *; generalize f 24 = v24 at *; generalize f 25 = v25 at *; generalize f 26 = v26 at *; generalize f 27 = v27 at *; generalize f 28 = v28 at *
          subst e8
          refine wpOp_step rfl (fun K hK => ?_)
          go_simp
          (with_reducible apply upon_float_conv); exact f32some; exact Tryd.underlying39; exact hzb; exact fits_widen hzb; intro r n hr
          exact hK _ _ ⟨_, rfl, (fun p hp => by cases hp; exact ⟨_, rfl, hr⟩), below_drewN (Below.refl _ _) _⟩
        · obtain rfl := Option.some.inj ho
          obtain ⟨r4, e4, hv4⟩ : isFlt _ _ (f 21) w1 := hdep ⟨4, .data⟩ (by simp) rfl
          obtain ⟨r9, e9, hv9⟩ : isFlt _ _ (f 26) w1 := hdep ⟨9, .data⟩ (by simp) rfl
          clear hdep ho hi
          generalize f 17 = v17 at *; generalize f 18 = v18 at *; generalize f 19 = v19 at *; generalize f 20 = v20 at *; generalize f 21 = v21 at *; generalize f 22 = v22 at *; generalize f 23 = v23 at *; generalize f 24 = v24 at *; generalize f 25 = v25 at *; generalize f 26 = v26 at *; generalize f 27 = v27 at *; generalize f 28 = v28 at *
          subst e4 e9
          refine wpOp_step rfl (fun K hK => ?_)
          go_simp
          refine (sameFloat_b hv4 hv9 _).mono ?_
          rintro e w' ⟨rfl, m, rfl⟩
          exact hK _ _ ⟨_, rfl, (fun p hp => by cases hp; rfl), below_drewN (Below.refl _ _) _⟩
        · obtain rfl := Option.some.inj ho
          have e10 : f 27 = (.bool true) := hdep ⟨10, .data⟩ (by simp) rfl
          clear hdep ho hi
          generalize f 17 = v17 at *; generalize f 18 = v18 at *; generalize f 19 = v19 at *; generalize f 20 = v20 at *; generalize f 21 = v21 at *; generalize f 22 = v22 at *; generalize f 23 = v23 at *; generalize f 24 = v24 at *; generalize f 25 = v25 at *; generalize f 26 = v26 at *; generalize f 27 = v27 at *; generalize f 28 = v28 at *
          subst e10
          refine wpOp_step rfl (fun K hK => ?_)
          go_simp
          exact hK _ _ ⟨_, rfl, (fun p hp => by cases hp; rfl), Below.refl _ _⟩
      · intro f w1 hI hF
        simp only [List.map_cons, List.map_nil, mix, List.contains_cons, List.contains_nil, Nat.reduceBEq, Bool.or_true, Bool.or_false, Bool.false_eq_true, if_true, if_false, Nat.reduceAdd, Nat.zero_add]
        obtain ⟨_, _, hbw1⟩ := hI
        have e11 : f 28 = .bool false := hF 11 (by simp)
        clear hF
        generalize f 17 = v17 at *; generalize f 18 = v18 at *; generalize f 19 = v19 at *; generalize f 20 = v20 at *; generalize f 21 = v21 at *; generalize f 22 = v22 at *; generalize f 23 = v23 at *; generalize f 24 = v24 at *; generalize f 25 = v25 at *; generalize f 26 = v26 at *; generalize f 27 = v27 at *; generalize f 28 = v28 at *
        subst e11
        refine wpAny_done (by kernel_rfl) ?_ _
        obtain ⟨h, k2⟩ := HN.out
        go_wp2_with fail
        go_roundw
        case rel => exact ⟨k + 1, by omega, by go_num, hbw1⟩
        case measure => simp [intOf]; omega
    · obtain rfl : k = cs.length := by omega
      go_wp2
      go_ret
      exact ⟨rfl, hbw⟩

end Go.Proofs.YteibkechlkjpgabDoor
