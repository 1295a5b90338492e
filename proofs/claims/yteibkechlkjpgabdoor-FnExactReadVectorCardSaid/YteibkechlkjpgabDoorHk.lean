/-
  A text cut at the commas: plain facts. No program.
-/
import Derived.Test.YteibkechlkjpgabDoorHi
import Derived.Test.YteibkechlkjpgabDoorVl
import Derived.Test.YteibkechlkjpgabDoorHf
import Derived.Deep.Slices
import Derived.Deep.Draws
import Derived.WideShapes
import Derived.Lib.Split
import Derived.Lib.SplitLaws
set_option linter.unusedVariables false
namespace Go.Proofs.YteibkechlkjpgabDoor
open Go.RowKit Go.Proofs.YteibkechlkjpgabDoor.Fl

/-- The slice from address A holds the values of xs. -/
def RdG {α : Type} (mk : α → Value) (w : World) (A : Option Addr) (xs : List α) : Prop :=
  ∀ i, i < xs.length → ∃ ad x, A = some ad ∧ ad.block < w.heap.size ∧ w.cell? (ad.add i) = some (mk x) ∧ xs[i]? = some x
abbrev mkS (s : ByteArray) : Value := .string s
abbrev RdS := RdG mkS

theorem RdG.below {α : Type} {mk : α → Value} {w w' : World} {A : Option Addr} {xs : List α} (h : RdG mk w A xs) (hb : Below w.heap.size w w') : RdG mk w' A xs := by
  intro i hi
  obtain ⟨ad, z, h1, h2, h3, h4⟩ := h i hi
  exact ⟨ad, z, h1, Nat.lt_of_lt_of_le h2 hb.size, (hb.cell (p := ad.add i) (by rw [addr_block]; exact h2)).trans h3, h4⟩

theorem RdG.at_ {α : Type} {mk : α → Value} {w : World} {A : Option Addr} {xs : List α} (h : RdG mk w A xs) {k : Nat} (hk : k < xs.length) : ∃ ad x, A = some ad ∧ Cel w (ad.add k) (mk x) ∧ xs[k]? = some x := by
  obtain ⟨ad, z, h1, h2, h3, h4⟩ := h k hk
  exact ⟨ad, z, h1, ⟨by rw [addr_block]; exact h2, h3⟩, h4⟩

theorem info9 : (Tryd.prog.info? 9).map (fun i => (i.zero, i.size, i.bytes)) = some (some (.string ⟨#[]⟩), 1, 16) := by kernel_rfl

theorem byte_at {s : ByteArray} {k : Nat} (h : k < s.size) : s.data.toList[k]? = some (s[k]'h) := by
  rw [Array.getElem?_toList]
  exact Array.getElem?_eq_getElem h
theorem size_list (s : ByteArray) : s.data.toList.length = s.size := rfl

def cutAt : List UInt8 → List (List UInt8)
  | [] => [[]]
  | b :: r => if b = 44 then [] :: cutAt r else match cutAt r with
    | [] => [[b]]
    | p :: ps => (b :: p) :: ps

theorem cutAt_ne : ∀ l, cutAt l ≠ []
  | [] => by simp [cutAt]
  | b :: r => by unfold cutAt; split; · simp
                 · split <;> simp
theorem cutAt_none : ∀ {a : List UInt8}, (44 : UInt8) ∉ a → cutAt a = [a]
  | [], _ => rfl
  | b :: r, h => by
    have hb : b ≠ 44 := fun e => h (by simp [e])
    have hr := cutAt_none (a := r) (fun e => h (by simp [e]))
    unfold cutAt
    rw [if_neg hb, hr]
theorem cutAt_comma : ∀ {a r : List UInt8}, (44 : UInt8) ∉ a → cutAt (a ++ 44 :: r) = a :: cutAt r
  | [], r, _ => by simp [cutAt]
  | b :: t, r, h => by
    have hb : b ≠ 44 := fun e => h (by simp [e])
    have hr := cutAt_comma (a := t) (r := r) (fun e => h (by simp [e]))
    show cutAt (b :: (t ++ 44 :: r)) = _
    rw [cutAt, if_neg hb, hr]

theorem splitK_cut : ∀ (l : List UInt8), Lib.splitK [44] 0 (l.count 44) l = cutAt l
  | [] => rfl
  | b :: r => by
    have ih := splitK_cut r
    by_cases hb : b = 44
    · subst hb
      have hix : Lib.index (44 :: r) [44] = 0 := by rw [Lib.index]; simp [List.isPrefixOf]
      rw [List.count_cons_self, Lib.splitK, hix, cutAt, if_pos rfl, ← ih]
      simp
    · have hix : Lib.index (b :: r) [44] = if Lib.index r [44] == -1 then -1 else Lib.index r [44] + 1 := by
        have hp : ([44] : List UInt8).isPrefixOf (b :: r) = false := by simp [List.isPrefixOf]; exact fun e => hb e.symm
        rw [Lib.index, hp]; simp
      rw [List.count_cons_of_ne (by simpa using hb), cutAt, if_neg hb, ← ih]
      cases hc : r.count 44 with
      | zero => rfl
      | succ k =>
        rw [Lib.splitK, Lib.splitK, hix]
        by_cases hm : Lib.index r [44] = -1
        · simp [hm]
        · have hge := Lib.index_ge r [44]
          obtain ⟨j, hj⟩ : ∃ j : Nat, Lib.index r [44] = j := ⟨(Lib.index r [44]).toNat, by omega⟩
          have h1 : ((j : Int) == -1) = false := beq_eq_false_iff_ne.2 (by omega)
          have h2 : ((j : Int) + 1 == -1) = false := beq_eq_false_iff_ne.2 (by omega)
          have h3 : ((j : Int) + 1).toNat = j + 1 := by omega
          rw [hj, h1]
          simp only [Bool.false_eq_true, if_false, h2, h3]
          simp [Nat.add_assoc]

/-- The pieces. -/
def pieces (s : ByteArray) : List ByteArray := (cutAt s.data.toList).map fun l => ⟨l.toArray⟩
theorem map_back (ps : List ByteArray) : (ps.map (·.data.toList)).map (fun l => (⟨l.toArray⟩ : ByteArray)) = ps := by
  rw [List.map_map]
  exact (List.map_congr_left (fun p _ => rfl)).trans (List.map_id ps)
theorem pieces_of {s : ByteArray} {ps : List ByteArray} (h : ps.map (·.data.toList) = cutAt s.data.toList) : ps = pieces s := by
  rw [pieces, ← h, map_back]

theorem split_pieces (s : ByteArray) : Lib.splitB ⟨#[44]⟩ 0 (Lib.countB s ⟨#[44]⟩) s = pieces s := by
  apply pieces_of
  rw [Lib.splitB_data]
  have e : Lib.countB s ⟨#[44]⟩ = s.data.toList.count 44 := Lib.count_one 44 s.data.toList
  rw [e]
  exact splitK_cut _
theorem split_length (s : ByteArray) : Lib.countB s ⟨#[44]⟩ + 1 = (pieces s).length := by
  rw [← split_pieces s, Lib.splitB_all ⟨#[44]⟩ (by decide) 0 _ s rfl]

/-- The reference's loop: what is done. -/
def CutInv (l : List UInt8) (done : List ByteArray) (f k : Nat) : Prop :=
  (k ≤ l.length ∧ f ≤ k ∧ done.map (·.data.toList) ++ cutAt (l.drop f) = cutAt l ∧ ∀ j, f ≤ j → j < k → l[j]? ≠ some 44) ∨ (k = l.length + 1 ∧ done.map (·.data.toList) = cutAt l)

theorem no_comma {l : List UInt8} {f k : Nat} (h : ∀ j, f ≤ j → j < k → l[j]? ≠ some 44) (hf : f ≤ k) : (44 : UInt8) ∉ (l.drop f).take (k - f) := by
  intro hm
  obtain ⟨i, hi⟩ := List.mem_iff_getElem?.1 hm
  rw [List.getElem?_take] at hi
  split at hi
  · rw [List.getElem?_drop] at hi
    exact h (f + i) (by omega) (by omega) hi
  · cases hi

theorem extract_list (s : ByteArray) (f k : Nat) : (s.extract f k).data.toList = (s.data.toList.drop f).take (k - f) := by
  simp [List.extract_eq_take_drop]

theorem cut_start (l : List UInt8) : CutInv l [] 0 0 := Or.inl ⟨Nat.zero_le _, Nat.le_refl _, rfl, fun j _ h => absurd h (Nat.not_lt_zero _)⟩
theorem cut_go {l : List UInt8} {done : List ByteArray} {f k : Nat} {b : UInt8} (h : CutInv l done f k) (hb : l[k]? = some b) (hn : b ≠ 44) : CutInv l done f (k + 1) := by
  have hk := (List.getElem?_eq_some_iff.1 hb).1
  rcases h with ⟨h1, h2, h3, h4⟩ | ⟨h1, _⟩
  · refine Or.inl ⟨by omega, by omega, h3, fun j hj1 hj2 => ?_⟩
    by_cases e : j = k
    · subst e; rw [hb]; intro c; exact hn (Option.some.inj c)
    · exact h4 j hj1 (by omega)
  · omega
theorem cut_at {s : ByteArray} {done : List ByteArray} {f k : Nat} (h : CutInv s.data.toList done f k) (hb : s.data.toList[k]? = some 44) : CutInv s.data.toList (done ++ [s.extract f k]) (k + 1) (k + 1) := by
  have hk := (List.getElem?_eq_some_iff.1 hb).1
  rcases h with ⟨h1, h2, h3, h4⟩ | ⟨h1, _⟩
  · refine Or.inl ⟨by omega, Nat.le_refl _, ?_, fun j hj1 hj2 => by omega⟩
    rw [List.map_append, List.append_assoc, ← h3]
    congr 1
    have hs : s.data.toList.drop f = (s.data.toList.drop f).take (k - f) ++ 44 :: s.data.toList.drop (k + 1) := by
      have e1 := (List.take_append_drop (k - f) (s.data.toList.drop f)).symm
      rw [List.drop_drop, show f + (k - f) = k by omega] at e1
      have e2 : s.data.toList.drop k = 44 :: s.data.toList.drop (k + 1) := by
        rw [List.drop_eq_getElem_cons hk]
        congr 1
        exact (List.getElem?_eq_some_iff.1 hb).2
      rw [e2] at e1
      exact e1
    have hc := cutAt_comma (r := s.data.toList.drop (k + 1)) (no_comma h4 h2)
    rw [← hs] at hc
    rw [hc]
    show (s.extract f k).data.toList :: _ = _
    rw [extract_list]
    rfl
  · omega
theorem cut_end {s : ByteArray} {done : List ByteArray} {f : Nat} (h : CutInv s.data.toList done f s.size) : CutInv s.data.toList (done ++ [s.extract f s.size]) (s.size + 1) (s.size + 1) := by
  rcases h with ⟨h1, h2, h3, h4⟩ | ⟨h1, _⟩
  · refine Or.inr ⟨rfl, ?_⟩
    rw [List.map_append, ← h3]
    congr 1
    have hn := no_comma h4 h2
    have e : (s.data.toList.drop f).take (s.size - f) = s.data.toList.drop f := List.take_of_length_le (by rw [List.length_drop, size_list]; exact Nat.le_refl _)
    rw [e] at hn
    rw [cutAt_none hn]
    show [(s.extract f s.size).data.toList] = _
    rw [extract_list, e]
  · rw [size_list] at h1; omega
theorem cut_le {l : List UInt8} {done : List ByteArray} {f k : Nat} (h : CutInv l done f k) (hk : k ≤ l.length) : f ≤ k := by
  rcases h with ⟨_, h2, _⟩ | ⟨h1, _⟩ <;> omega
theorem cut_done {s : ByteArray} {done : List ByteArray} {f k : Nat} (h : CutInv s.data.toList done f k) (hk : ¬ k ≤ s.size) : done = pieces s := by
  rcases h with ⟨h1, _⟩ | ⟨_, h2⟩
  · exact absurd h1 hk
  · exact pieces_of h2

end Go.Proofs.YteibkechlkjpgabDoor
