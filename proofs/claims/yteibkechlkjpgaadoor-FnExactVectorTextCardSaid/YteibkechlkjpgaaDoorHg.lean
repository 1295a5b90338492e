/-
  NumbersText: both sides give the numbers' text. No condition but the table's.
-/
import Derived.Test.YteibkechlkjpgaaDoorHf
import Derived.Test.YteibkechlkjpgaaDoorVl
import Derived.Lib.Join
set_option linter.unusedVariables false
namespace Go.Proofs.YteibkechlkjpgaaDoor
open Go.RowKit Go.Proofs.YteibkechlkjpgaaDoor.Fl

/-! ### plain -/
abbrev hx (c : Option Nat) : List UInt8 := hexN 8 (bitsN c)
/-- The text of a list. -/
def txtN (cs : List (Option Nat)) : List UInt8 := if cs = [] then [110, 111, 110, 101] else Lib.join (cs.map hx) [44]
def resN (cs : List (Option Nat)) : ByteArray := if cs.length ≤ 256 then ⟨(txtN cs).toArray⟩ else ⟨#[]⟩

theorem tail_len {n : Nat} : ∀ {r : List (List UInt8)}, (∀ x ∈ r, x.length ≤ n) → (Lib.joinTail [44] r).length ≤ (n + 1) * r.length
  | [], _ => by simp [Lib.joinTail]
  | x :: r, h => by
    have h1 := h x (by simp)
    have h2 := tail_len (r := r) (fun y hy => h y (by simp [hy]))
    have e : Lib.joinTail [44] (x :: r) = 44 :: (x ++ Lib.joinTail [44] r) := by simp [Lib.joinTail]
    rw [e, List.length_cons, List.length_append, List.length_cons, Nat.mul_succ]
    omega
theorem join_len {cs : List (Option Nat)} (h : cs.length ≤ 256) : (Lib.join (cs.map hx) [44]).length ≤ 3000 := by
  cases cs with
  | nil => simp [Lib.join_nil]
  | cons c r =>
    rw [List.map_cons, Lib.join_cons, List.length_append, hexN_length]
    have h2 := tail_len (n := 8) (r := r.map hx) (fun y hy => by
      obtain ⟨z, _, rfl⟩ := List.mem_map.1 hy
      rw [hexN_length]; exact Nat.le_refl _)
    simp at h2 h
    omega
theorem joinTail_append (a b : List (List UInt8)) : Lib.joinTail [44] (a ++ b) = Lib.joinTail [44] a ++ Lib.joinTail [44] b := by simp [Lib.joinTail]
theorem getD_at {cs : List (Option Nat)} {k : Nat} (h : k < cs.length) : cs[k]? = some (cs.getD k none) := by simp [List.getD, h]
theorem join_more {cs : List (Option Nat)} {k : Nat} (h1 : 1 ≤ k) (hk : k < cs.length) :
    Lib.join ((cs.take (k + 1)).map hx) [44] = Lib.join ((cs.take k).map hx) [44] ++ 44 :: hx (cs.getD k none) := by
  have e : cs.take (k + 1) = cs.take k ++ [cs.getD k none] := by rw [List.take_add_one, getD_at hk]; rfl
  rw [e, List.map_append]
  obtain ⟨y, r, hr⟩ : ∃ y r, cs.take k = y :: r := by
    cases hc : cs.take k with
    | nil => have := congrArg List.length hc; rw [List.length_take, List.length_nil] at this; omega
    | cons y r => exact ⟨y, r, rfl⟩
  rw [hr, List.map_cons, List.cons_append, Lib.join_cons, Lib.join_cons, joinTail_append, List.append_assoc]
  simp [Lib.joinTail]
theorem take_first {cs : List (Option Nat)} (h : 0 < cs.length) : cs.take 1 = [cs.getD 0 none] := by
  cases cs with
  | nil => cases h
  | cons a r => rfl
theorem ret_s2 {a b : ByteArray} (h : a = b) : Ending.returned (.string a) = .returned (.string b) := by rw [h]

/-- A row that the call has made at block g, its first k cells those of xs. -/
structure RowG {α : Type} (mk : α → Value) (wr : World) (g k : Nat) (xs : List α) : Prop where
  lt : g < wr.heap.size
  cell : ∀ j, j < xs.length → ∃ v, wr.cell? ⟨g, j, none⟩ = some v ∧ (j < k → ∃ x, xs[j]? = some x ∧ v = mk x)
  frozen : ∀ o, wr.frozen? ⟨g, o, none⟩ = false
theorem RowG.below {α : Type} {mk : α → Value} {w w' : World} {g k : Nat} {xs : List α} (h : RowG mk w g k xs) (hb : Below w.heap.size w w') : RowG mk w' g k xs :=
  ⟨Nat.lt_of_lt_of_le h.lt hb.size, fun j hj => by
    obtain ⟨z, h1, h2⟩ := h.cell j hj
    exact ⟨z, (hb.cell (p := ⟨g, j, none⟩) h.lt).trans h1, h2⟩, fun o => (hb.frozen (p := ⟨g, o, none⟩) h.lt).trans (h.frozen o)⟩
theorem RowG.new {α : Type} (mk : α → Value) (w : World) (xs : List α) (zv : Value) (t : TypeId) : RowG mk (w.alloc (.cells (madeCells #[zv] (xs.length * 1)) t)) w.heap.size 0 xs := by
  refine ⟨by simp, fun j hj => ⟨zv, ?_, fun h => absurd h (by omega)⟩, fun o => by simp⟩
  have h1 : (madeCells #[zv] (xs.length * 1))[j]? = some zv := by
    rw [Nat.mul_one, ← Array.getElem?_toList, toList_madeCells_one]
    simp [hj]
  simpa using h1
theorem RowG.step {α : Type} {mk : α → Value} {wr : World} {g k : Nat} {xs : List α} (h : RowG mk wr g k xs) {x : α} (hk : k < xs.length) (hx : xs[k]? = some x) : RowG mk (wr.setCell ⟨g, k, none⟩ (mk x)) g (k + 1) xs := by
  refine ⟨by simpa using h.lt, fun j hj => ?_, fun o => by simpa using h.frozen o⟩
  by_cases e : j = k
  · subst e
    obtain ⟨z0, h1, _⟩ := h.cell j hj
    exact ⟨mk x, by go_simp, fun _ => ⟨x, hx, rfl⟩⟩
  · obtain ⟨z0, h1, h2⟩ := h.cell j hj
    have hne : (⟨g, k, none⟩ : Addr) ≠ ⟨g, j, none⟩ := by intro c; cases c; exact e rfl
    exact ⟨z0, by rw [← h1]; go_simp, fun hlt => h2 (by omega)⟩
theorem info9 : (Tryd.prog.info? 9).map (fun i => (i.zero, i.size, i.bytes)) = some (some (.string ⟨#[]⟩), 1, 16) := by kernel_rfl
abbrev mkH (c : Option Nat) : Value := .string (hex8 (bitsN c))

/-! ### the reference -/
set_option maxHeartbeats 1000000 in
theorem c_l01NText {w : World} {A : Option Addr} {cap : Nat} {cs : List (Option Nat)} (h : RdC w A cs) (h64 : cs.length ≤ 256) :
    Calls Tryd.prog 13 #[.slice A cs.length cap] w fun e w' => e = .returned (.string ⟨(txtN cs).toArray⟩) ∧ Below w.heap.size w w' := by
  by_cases h0 : cs = []
  · subst h0
    go_enter Tryd.func13, Tryd.ntmps13
    go_wp2
    go_ret
    exact ⟨rfl, Below.refl _ _⟩
  · have hl : 0 < cs.length := List.length_pos_iff.2 h0
    obtain ⟨ad, z, rfl, hc, hz⟩ := h.at_ hl
    have hc2 : w.cell? ad = some (.float .f32 z) := by have := hc.2; rwa [show ad.add 0 = ad by simp [Addr.add]] at this
    have HN := Lib.hid (And.intro h h0)
    have HZ := Lib.hid hz
    clear hc hz h h0
    go_enter Tryd.func13, Tryd.ntmps13
    go_wp2_with (go_at_call 17; refine (c_l01Hex HZ.out _).mono ?_; rintro e w1 ⟨rfl, hb1⟩)
    go_loopw [3, 4] (fun s i wr => ∃ (k : Nat) (t : ByteArray), 1 ≤ k ∧ k ≤ cs.length ∧ i = .int .i64 k ∧ s = .string t ∧ Hid (t.data.toList = Lib.join ((cs.take k).map hx) [44]) ∧ Below w.heap.size w wr) (fun _ i _ => cs.length - (intOf i).toNat)
    case atStart =>
      refine ⟨1, _, Nat.le_refl _, hl, rfl, rfl, ?_, hb1⟩
      show _ = _
      rw [take_first hl, List.map_cons, List.map_nil, Lib.join_one, show cs.getD 0 none = cs[0] by simp [List.getD, hl]]
    case round =>
      obtain ⟨k, t, hk1, hk, rfl, rfl, ht, hbw⟩ := hrel
      by_cases hlt : k < cs.length
      · obtain ⟨ad', z', he, hc', hz'⟩ := (HN.out.1.below hbw).at_ hlt
        obtain rfl := Option.some.inj he
        have hc2' := hc'.2
        have HK := Lib.hid hz'
        have hs3 : t.size ≤ 3000 := by
          have := join_len (cs := cs.take k) (by rw [List.length_take]; omega)
          rw [← ht.out] at this
          simpa using this
        have c := c_l01Hex (w := wr) hz'
        have hs1 : ¬ 9223372036854775807 < 1 + (8 : Nat) := by decide
        obtain ⟨d, hd⟩ : ∃ d, d = hex8 (bitsN (cs.getD k none)) := ⟨_, rfl⟩
        have hds : d.size = 8 := by rw [hd]; exact hexN_length 8 _
        rw [← hd] at c
        have HD := Lib.hid hd
        clear hc' hz' he hd
        go_wp2_with (go_at_call 17; refine c.mono ?_; rintro e w2 ⟨rfl, hb2⟩)
        go_roundw
        case rel =>
          refine ⟨k + 1, _, by omega, by omega, by go_num, rfl, ?_, hbw.trans (hb2.mono hbw.size)⟩
          show _ = _
          rw [join_more hk1 hlt, ← ht.out, HD.out]
          simp
        case measure => simp [intOf]; omega
      · obtain rfl : k = cs.length := by omega
        go_wp2
        go_ret
        refine ⟨ret_s2 (bytes_eq ?_), hbw⟩
        rw [ht.out, List.take_length, txtN, if_neg HN.out.2]

end Go.Proofs.YteibkechlkjpgaaDoor
