/-
  Rows of int64 and of strings: what a slice holds; toInt64S, eqInt64S. No condition.
-/
import Derived.Test.YtdngnfohcdamfaaDoorDb
import Derived.Test.YtdngnfohcdamfaaDoorFd
import Derived.Deep.Slices
import Derived.Deep.Draws
import Derived.WideShapes
set_option linter.unusedVariables false
namespace Go.Proofs.YtdngnfohcdamfaaDoor
open Go.RowKit Go.ChangeShapes Go.WideShapes Go.Deep Go.Proofs.YtdngnfohcdamfaaDoor.Fl

theorem addr_block (a : Addr) (n : Nat) : (a.add n).block = a.block := by unfold Addr.add; split <;> rfl
theorem addr_add (a : Addr) (i j : Nat) : (a.add i).add j = a.add (i + j) := by
  unfold Addr.add
  by_cases hi : i = 0 <;> by_cases hj : j = 0 <;> simp [hi, hj, Nat.add_assoc]

/-- The slice from address A holds the values of xs. -/
def RdG {α : Type} (mk : α → Value) (w : World) (A : Option Addr) (xs : List α) : Prop :=
  ∀ i, i < xs.length → ∃ ad x, A = some ad ∧ ad.block < w.heap.size ∧ w.cell? (ad.add i) = some (mk x) ∧ xs[i]? = some x
abbrev mkI (z : Int) : Value := .int .i64 z
abbrev mkS (s : ByteArray) : Value := .string s
abbrev RdI := RdG mkI
abbrev RdS := RdG mkS

theorem RdG.below {α : Type} {mk : α → Value} {w w' : World} {A : Option Addr} {xs : List α} (h : RdG mk w A xs) (hb : Below w.heap.size w w') : RdG mk w' A xs := by
  intro i hi
  obtain ⟨ad, z, h1, h2, h3, h4⟩ := h i hi
  exact ⟨ad, z, h1, Nat.lt_of_lt_of_le h2 hb.size, (hb.cell (p := ad.add i) (by rw [addr_block]; exact h2)).trans h3, h4⟩

/-- A cell that is there. -/
def Cel (w : World) (p : Addr) (v : Value) : Prop := p.block < w.heap.size ∧ w.cell? p = some v
theorem Cel.below {w w' : World} {p : Addr} {v : Value} (h : Cel w p v) (hb : Below w.heap.size w w') : Cel w' p v := ⟨Nat.lt_of_lt_of_le h.1 hb.size, (hb.cell h.1).trans h.2⟩

theorem RdG.at_ {α : Type} {mk : α → Value} {w : World} {A : Option Addr} {xs : List α} (h : RdG mk w A xs) {k : Nat} (hk : k < xs.length) : ∃ ad x, A = some ad ∧ Cel w (ad.add k) (mk x) ∧ xs[k]? = some x := by
  obtain ⟨ad, z, h1, h2, h3, h4⟩ := h k hk
  exact ⟨ad, z, h1, ⟨by rw [addr_block]; exact h2, h3⟩, h4⟩

/-- A row that the call has made at block g, its first k cells those of xs. -/
structure RowG {α : Type} (mk : α → Value) (wr : World) (g k : Nat) (xs : List α) : Prop where
  lt : g < wr.heap.size
  cell : ∀ j, j < xs.length → ∃ v, wr.cell? ⟨g, j, none⟩ = some v ∧ (j < k → ∃ x, xs[j]? = some x ∧ v = mk x)
  frozen : ∀ o, wr.frozen? ⟨g, o, none⟩ = false

theorem RowG.rd {α : Type} {mk : α → Value} {wr : World} {g : Nat} {xs : List α} (h : RowG mk wr g xs.length xs) : RdG mk wr (some ⟨g, 0, none⟩) xs := by
  intro i hi
  obtain ⟨v, h1, h2⟩ := h.cell i hi
  obtain ⟨x, h3, rfl⟩ := h2 hi
  refine ⟨_, x, rfl, h.lt, ?_, h3⟩
  rw [Addr.add_lit, Nat.zero_add]
  exact h1

theorem RowG.below {α : Type} {mk : α → Value} {w w' : World} {g k : Nat} {xs : List α} (h : RowG mk w g k xs) (hb : Below w.heap.size w w') : RowG mk w' g k xs :=
  ⟨Nat.lt_of_lt_of_le h.lt hb.size, fun j hj => by
    obtain ⟨z, h1, h2⟩ := h.cell j hj
    exact ⟨z, (hb.cell (p := ⟨g, j, none⟩) h.lt).trans h1, h2⟩, fun o => (hb.frozen (p := ⟨g, o, none⟩) h.lt).trans (h.frozen o)⟩

theorem RowG.new {α : Type} (mk : α → Value) (w : World) (xs : List α) (zv : Value) (t : TypeId) : RowG mk (w.alloc (.cells (madeCells #[zv] (xs.length * 1)) t)) w.heap.size 0 xs := by
  refine ⟨by simp, fun j hj => ⟨zv, ?_, fun h => absurd h (by omega)⟩, fun o => by simp⟩
  have h1 : (madeCells #[zv] (xs.length * 1))[j]? = some zv := by
    rw [Nat.mul_one, ← Array.getElem?_toList, toList_madeCells_one]
    simp [hj]
  simpa using h1

theorem RowG.step {α : Type} {mk : α → Value} {wr : World} {g k : Nat} {xs : List α} (h : RowG mk wr g k xs) {x : α} (hk : k < xs.length) (hx : xs[k]? = some x) : RowG mk (wr.setCell ⟨g, k, none⟩ (mk x)) g (k + 1) xs := by
  refine ⟨by simpa using h.lt, fun j hj => ?_, fun o => by simpa using h.frozen o⟩
  by_cases e : j = k
  · subst e
    obtain ⟨z0, h1, _⟩ := h.cell j hj
    exact ⟨mk x, by go_simp, fun _ => ⟨x, hx, rfl⟩⟩
  · obtain ⟨z0, h1, h2⟩ := h.cell j hj
    have hne : (⟨g, k, none⟩ : Addr) ≠ ⟨g, j, none⟩ := by intro c; cases c; exact e rfl
    exact ⟨z0, by rw [← h1]; go_simp, fun hlt => h2 (by omega)⟩

def isV (c : Value) : Value → World → Prop := fun v _ => v = c
theorem mono_isV (c : Value) : Mono (isV c) := fun _ _ _ _ h => h
theorem info2 : (Tryd.prog.info? 2).map (fun i => (i.zero, i.size, i.bytes)) = some (some (.int .i64 0), 1, 8) := by kernel_rfl
theorem info9 : (Tryd.prog.info? 9).map (fun i => (i.zero, i.size, i.bytes)) = some (some (.string ⟨#[]⟩), 1, 16) := by kernel_rfl

/-- A slice of one's own comes back. -/
def RetRow {α : Type} (mk : α → Value) (xs : List α) (w : World) (e : Ending) (w' : World) : Prop := ∃ g, e = .returned (.slice (some ⟨g, 0, none⟩) xs.length xs.length) ∧ w.heap.size ≤ g ∧ RowG mk w' g xs.length xs ∧ Below w.heap.size w w'
abbrev RetB (b : Bool) (w : World) (e : Ending) (w' : World) : Prop := e = .returned (.bool b) ∧ Below w.heap.size w w'

set_option maxHeartbeats 1000000 in
theorem c_toI {w : World} {A : Option Addr} {cap : Nat} {xs : List Int} (h : RdI w A xs) (hn : xs.length ≤ 1048576) :
    Calls Tryd.prog 10 #[.slice A xs.length cap] w (RetRow mkI xs w) := by
  obtain ⟨i0, hi, hz0, hz1, hz2⟩ := info_parts info2
  have hmk := run_make (P := Tryd.prog) w 24 2 i0 (.int .i64 0) Tryd.underlying24 hi hz0 .i64 .i64 xs.length xs.length (by omega) (Int.le_refl _) (by rw [hz2]; omega) (by omega)
  rw [hz1] at hmk
  simp only [Int.toNat_natCast] at hmk
  change _ = Result.ok _ (w.alloc (.cells (madeCells #[.int .i64 0] (xs.length * 1)) 2)) at hmk
  have hr0 := RowG.new mkI w xs (.int .i64 0) 2
  have hb0 : Below w.heap.size w (w.alloc (.cells (madeCells #[.int .i64 0] (xs.length * 1)) 2)) := (Below.refl _ _).alloc (Nat.le_refl _) _
  generalize hW : w.alloc (.cells (madeCells #[.int .i64 0] (xs.length * 1)) 2) = W at *
  clear hW hi hz0 hz1 hz2
  have HR := Lib.hid hr0
  clear hr0
  go_enter Tryd.func10, Tryd.ntmps10
  go_wp2
  clear hmk
  go_loopw [4] (fun i wr => ∃ k : Nat, k ≤ xs.length ∧ i = .int .i64 k ∧ RowG mkI wr w.heap.size k xs ∧ Below w.heap.size w wr) (fun i _ => xs.length - (intOf i).toNat)
  case atStart => exact ⟨0, Nat.zero_le _, rfl, HR.out, hb0⟩
  case round =>
    obtain ⟨k, hk, rfl, hrow, hbw⟩ := hrel
    by_cases hlt : k < xs.length
    · obtain ⟨ad, z, rfl, hc, hz⟩ := (h.below hbw).at_ hlt
      obtain ⟨z0, hd, _⟩ := hrow.cell k hlt
      have hf := hrow.frozen k
      have hc2 := hc.2
      have HN := Lib.hid (And.intro hrow (And.intro hc (And.intro hz h)))
      clear hrow hc hz h
      go_wp2
      obtain ⟨hrow, hc, hz, h⟩ := HN.out
      go_roundw
      case rel => exact ⟨k + 1, by omega, by go_num, hrow.step hlt hz, hbw.setCell (Nat.le_refl _) _⟩
      case measure => simp [intOf]; omega
    · obtain rfl : k = xs.length := by omega
      have HN := Lib.hid hrow
      clear hrow h
      go_wp2
      go_ret
      exact ⟨_, rfl, Nat.le_refl _, HN.out, hbw⟩

set_option maxHeartbeats 4000000 in
theorem c_eqI {w : World} {A B : Option Addr} {cap cap2 : Nat} {xs : List Int} (h : RdI w A xs) (k2 : RdI w B xs) (hn : xs.length ≤ 1048576) :
    Calls Tryd.prog 12 #[.slice A xs.length cap, .slice B xs.length cap2] w (RetB true w) := by
  go_enter Tryd.func12, Tryd.ntmps12
  go_wp2
  go_loopw [5] (fun i wr => ∃ k : Nat, k ≤ xs.length ∧ i = .int .i64 k ∧ Below w.heap.size w wr) (fun i _ => xs.length - (intOf i).toNat)
  case atStart => exact ⟨0, Nat.zero_le _, rfl, Below.refl _ _⟩
  case round =>
    obtain ⟨k, hk, rfl, hbw⟩ := hrel
    by_cases hlt : k < xs.length
    · obtain ⟨ad, za, rfl, hca0, hza⟩ := (h.below hbw).at_ hlt
      obtain ⟨bd, zb, rfl, hcb0, hzb⟩ := (k2.below hbw).at_ hlt
      obtain rfl : za = zb := Option.some.inj (hza.symm.trans hzb)
      have HN := Lib.hid (And.intro h k2)
      clear h k2 hza hzb
      go_wp2_with fail
      refine wp_region_drawn [(17, isV (.slice (some ad) xs.length cap)), (18, isV (.int .i64 k)), (19, isV (.pointer (some (ad.add k)))), (20, isV (.int .i64 za)), (21, isV (.slice (some bd) xs.length cap2)), (22, isV (.int .i64 k)), (23, isV (.pointer (some (bd.add k)))), (24, isV (.int .i64 za)), (25, isV (.bool false))]
        (fun wr => Cel wr (ad.add k) (.int .i64 za) ∧ Cel wr (bd.add k) (.int .i64 za) ∧ Below w.heap.size w wr)
        (by kernel_rfl) (by kernel_rfl) (by kernel_rfl) (by kernel_rfl) (Nat.le_of_ble_eq_true (by kernel_rfl)) (by kernel_rfl) ?_ (fun _ _ hb ⟨⟨hca1, hca⟩, ⟨hcb1, hcb⟩, hbw⟩ => ⟨Cel.below ⟨hca1, hca⟩ hb, Cel.below ⟨hcb1, hcb⟩ hb, hbw.trans (hb.mono hbw.size)⟩) ⟨hca0, hcb0, hbw.drew⟩ ?_ ?_
      · intro p hp
        simp only [List.mem_cons, List.not_mem_nil, or_false] at hp
        rcases hp with rfl | rfl | rfl | rfl | rfl | rfl | rfl | rfl | rfl <;> exact mono_isV _
      · intro i o hi ho f w1 hI hdep
        simp only [List.map_cons, List.map_nil, mix, List.contains_cons, List.contains_nil, Nat.reduceBEq, Bool.or_true, Bool.or_false, Bool.false_eq_true, if_true, if_false, Nat.reduceAdd, Nat.zero_add]
        have hcase : i = 0 ∨ i = 1 ∨ i = 2 ∨ i = 3 ∨ i = 4 ∨ i = 5 ∨ i = 6 ∨ i = 7 ∨ i = 8 := by simp at hi; omega
        obtain ⟨⟨hca1, hca⟩, ⟨hcb1, hcb⟩, hbw⟩ := hI
        rcases hcase with rfl | rfl | rfl | rfl | rfl | rfl | rfl | rfl | rfl
        · obtain rfl := Option.some.inj ho
          clear hdep ho hi
          generalize f 17 = v17 at *; generalize f 18 = v18 at *; generalize f 19 = v19 at *; generalize f 20 = v20 at *; generalize f 21 = v21 at *; generalize f 22 = v22 at *; generalize f 23 = v23 at *; generalize f 24 = v24 at *; generalize f 25 = v25 at *
          refine wpOp_step rfl (fun K hK => ?_)
          go_simp
          exact hK _ _ ⟨_, rfl, (fun p hp => by cases hp; rfl), Below.refl _ _⟩
        · obtain rfl := Option.some.inj ho
          clear hdep ho hi
          generalize f 17 = v17 at *; generalize f 18 = v18 at *; generalize f 19 = v19 at *; generalize f 20 = v20 at *; generalize f 21 = v21 at *; generalize f 22 = v22 at *; generalize f 23 = v23 at *; generalize f 24 = v24 at *; generalize f 25 = v25 at *
          refine wpOp_step rfl (fun K hK => ?_)
          go_simp
          exact hK _ _ ⟨_, rfl, (fun p hp => by cases hp; rfl), Below.refl _ _⟩
        · obtain rfl := Option.some.inj ho
          have e0 : f 17 = (.slice (some ad) xs.length cap) := hdep ⟨0, .data⟩ (by simp) rfl
          have e1 : f 18 = (.int .i64 k) := hdep ⟨1, .data⟩ (by simp) rfl
          clear hdep ho hi
          generalize f 17 = v17 at *; generalize f 18 = v18 at *; generalize f 19 = v19 at *; generalize f 20 = v20 at *; generalize f 21 = v21 at *; generalize f 22 = v22 at *; generalize f 23 = v23 at *; generalize f 24 = v24 at *; generalize f 25 = v25 at *
          subst e0 e1
          refine wpOp_step rfl (fun K hK => ?_)
          go_simp
          exact hK _ _ ⟨_, rfl, (fun p hp => by cases hp; rfl), Below.refl _ _⟩
        · obtain rfl := Option.some.inj ho
          have e2 : f 19 = (.pointer (some (ad.add k))) := hdep ⟨2, .data⟩ (by simp) rfl
          clear hdep ho hi
          generalize f 17 = v17 at *; generalize f 18 = v18 at *; generalize f 19 = v19 at *; generalize f 20 = v20 at *; generalize f 21 = v21 at *; generalize f 22 = v22 at *; generalize f 23 = v23 at *; generalize f 24 = v24 at *; generalize f 25 = v25 at *
          subst e2
          refine wpOp_step rfl (fun K hK => ?_)
          go_simp
          exact hK _ _ ⟨_, rfl, (fun p hp => by cases hp; rfl), Below.refl _ _⟩
        · obtain rfl := Option.some.inj ho
          clear hdep ho hi
          generalize f 17 = v17 at *; generalize f 18 = v18 at *; generalize f 19 = v19 at *; generalize f 20 = v20 at *; generalize f 21 = v21 at *; generalize f 22 = v22 at *; generalize f 23 = v23 at *; generalize f 24 = v24 at *; generalize f 25 = v25 at *
          refine wpOp_step rfl (fun K hK => ?_)
          go_simp
          exact hK _ _ ⟨_, rfl, (fun p hp => by cases hp; rfl), Below.refl _ _⟩
        · obtain rfl := Option.some.inj ho
          clear hdep ho hi
          generalize f 17 = v17 at *; generalize f 18 = v18 at *; generalize f 19 = v19 at *; generalize f 20 = v20 at *; generalize f 21 = v21 at *; generalize f 22 = v22 at *; generalize f 23 = v23 at *; generalize f 24 = v24 at *; generalize f 25 = v25 at *
          refine wpOp_step rfl (fun K hK => ?_)
          go_simp
          exact hK _ _ ⟨_, rfl, (fun p hp => by cases hp; rfl), Below.refl _ _⟩
        · obtain rfl := Option.some.inj ho
          have e4 : f 21 = (.slice (some bd) xs.length cap2) := hdep ⟨4, .data⟩ (by simp) rfl
          have e5 : f 22 = (.int .i64 k) := hdep ⟨5, .data⟩ (by simp) rfl
          clear hdep ho hi
          generalize f 17 = v17 at *; generalize f 18 = v18 at *; generalize f 19 = v19 at *; generalize f 20 = v20 at *; generalize f 21 = v21 at *; generalize f 22 = v22 at *; generalize f 23 = v23 at *; generalize f 24 = v24 at *; generalize f 25 = v25 at *
          subst e4 e5
          refine wpOp_step rfl (fun K hK => ?_)
          go_simp
          exact hK _ _ ⟨_, rfl, (fun p hp => by cases hp; rfl), Below.refl _ _⟩
        · obtain rfl := Option.some.inj ho
          have e6 : f 23 = (.pointer (some (bd.add k))) := hdep ⟨6, .data⟩ (by simp) rfl
          clear hdep ho hi
          generalize f 17 = v17 at *; generalize f 18 = v18 at *; generalize f 19 = v19 at *; generalize f 20 = v20 at *; generalize f 21 = v21 at *; generalize f 22 = v22 at *; generalize f 23 = v23 at *; generalize f 24 = v24 at *; generalize f 25 = v25 at *
          subst e6
          refine wpOp_step rfl (fun K hK => ?_)
          go_simp
          exact hK _ _ ⟨_, rfl, (fun p hp => by cases hp; rfl), Below.refl _ _⟩
        · obtain rfl := Option.some.inj ho
          have e3 : f 20 = (.int .i64 za) := hdep ⟨3, .data⟩ (by simp) rfl
          have e7 : f 24 = (.int .i64 za) := hdep ⟨7, .data⟩ (by simp) rfl
          clear hdep ho hi
          generalize f 17 = v17 at *; generalize f 18 = v18 at *; generalize f 19 = v19 at *; generalize f 20 = v20 at *; generalize f 21 = v21 at *; generalize f 22 = v22 at *; generalize f 23 = v23 at *; generalize f 24 = v24 at *; generalize f 25 = v25 at *
          subst e3 e7
          refine wpOp_step rfl (fun K hK => ?_)
          go_simp
          exact hK _ _ ⟨_, rfl, (fun p hp => by cases hp; rfl), Below.refl _ _⟩
      · intro f w1 hI hF
        simp only [List.map_cons, List.map_nil, mix, List.contains_cons, List.contains_nil, Nat.reduceBEq, Bool.or_true, Bool.or_false, Bool.false_eq_true, if_true, if_false, Nat.reduceAdd, Nat.zero_add]
        obtain ⟨_, _, hbw1⟩ := hI
        have e8 : f 25 = .bool false := hF 8 (by simp)
        clear hF
        generalize f 17 = v17 at *; generalize f 18 = v18 at *; generalize f 19 = v19 at *; generalize f 20 = v20 at *; generalize f 21 = v21 at *; generalize f 22 = v22 at *; generalize f 23 = v23 at *; generalize f 24 = v24 at *; generalize f 25 = v25 at *
        subst e8
        refine wpAny_done (by kernel_rfl) ?_ _
        obtain ⟨h, k2⟩ := HN.out
        go_wp2_with fail
        go_roundw
        case rel => exact ⟨k + 1, by omega, by go_num, hbw1⟩
        case measure => simp [intOf]; omega
    · obtain rfl : k = xs.length := by omega
      go_wp2
      go_ret
      exact ⟨rfl, hbw⟩

/-- A slice of int64 that came in. -/
theorem ints_of {H : Type} {enc : TypeId × Value → H} {P : Program} {w : World} {base : Nat} {spare : Nat → Bool} {held : Bool} {t e : TypeId} {fuel len cap : Nat} {s : Option Addr} {x : DataW H × List MemPlace}
    (ht : P.underlying t = some (.slice e)) (he : P.underlying e = some (.int .i64)) (hc : P.cellsOf e = 1) (h : DataW.trod enc P w base spare held fuel t [.slice s len cap] = some x) :
    ∃ xs : List Int, len = xs.length ∧ RdI w s xs ∧ ∀ z ∈ xs, (Lit.int .i64 z).wf = true := by
  rcases Go.Deep.open_slice1 ht hc h with ⟨h1, _⟩ | ⟨a, len', cap', m, n, V, D, Pl, h1, hb, hl, hm, hmm, _, hx⟩
  · cases h1
    exact ⟨[], rfl, fun i hi => absurd hi (Nat.not_lt_zero _), fun z hz => by simp at hz⟩
  · cases h1
    have hlm : len ≤ m := by rw [hmm]; split <;> omega
    have each : ∀ i, i < len → ∃ z, V i = .int .i64 z ∧ (Lit.int .i64 z).wf = true := fun i hi => by
      obtain ⟨z, h1, _, h3⟩ := DataW.trod_int he (hx i (by omega)).2
      exact ⟨z, by simpa using h1, h3⟩
    refine ⟨(List.range len).map (fun i => intOf (V i)), by simp, fun i hi => ?_, fun z hz => ?_⟩
    · have hi' : i < len := by simpa using hi
      obtain ⟨z, hz, _⟩ := each i hi'
      refine ⟨a, z, rfl, ?_, ?_, ?_⟩
      · have := block_lt_of_cell (hx i (by omega)).1
        rwa [addr_block] at this
      · rw [(hx i (by omega)).1, hz]
      · simp [hi', hz, intOf]
    · obtain ⟨i, hi, rfl⟩ := List.mem_map.1 hz
      obtain ⟨z, hz, hw⟩ := each i (by simpa using hi)
      rw [hz]; exact hw

end Go.Proofs.YtdngnfohcdamfaaDoor
