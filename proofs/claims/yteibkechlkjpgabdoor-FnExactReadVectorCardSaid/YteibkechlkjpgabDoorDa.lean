/-
  The decimal digits of a number: the reference's loop gives the numeral. No condition but that the number is an int64.
-/
import Derived.Test.YteibkechlkjpgabDoorProg
import Derived.WalkKit
import Derived.Below
import Derived.Lib.Hide
import Derived.Lib.ItoaNum
import Derived.Lib.LaidTab
import Derived.Laws.IdiomStrings
import Derived.Laws.Rows
import Derived.Deep.Draws
import Derived.Deep.AppendLies
import Derived.OwnWalk
set_option linter.unusedVariables false
namespace Go.Proofs.YteibkechlkjpgabDoor
open Go.RowKit

/-! ### plain -/
theorem nDigits_le : ∀ (k u : Nat), u < 10 ^ (k + 1) → Lib.nDigits u ≤ k + 1
  | 0, u, h => by rw [Lib.nDigits_small (by simpa using h)]; exact Nat.le_refl _
  | k + 1, u, h => by
    by_cases c : u < 10
    · rw [Lib.nDigits_small c]; omega
    · rw [Lib.nDigits_big c]
      have := nDigits_le k (u / 10) (by rw [Nat.pow_succ] at h; omega)
      omega

/-- What has been gathered of |n| so far, when R is left. -/
def Gath (n R : Int) (ds : List UInt8) : Prop :=
  (ds = [] ∧ R = n) ∨ (ds ≠ [] ∧ (R = 0 → Lib.decDigits n.natAbs = ds) ∧ (R ≠ 0 → Lib.decDigits n.natAbs = Lib.decDigits R.natAbs ++ ds))

theorem gath_step {n R R' : Int} {ds : List UInt8} (h : Gath n R ds) (hgo : ds = [] ∨ R ≠ 0) {d : Nat} (hd : d = R.natAbs % 10) (hR : R'.natAbs = R.natAbs / 10) : Gath n R' (UInt8.ofNat (48 + d) :: ds) := by
  right
  have key : ∀ es : List UInt8, Lib.decDigits R.natAbs ++ es = (if R'.natAbs = 0 then [] else Lib.decDigits R'.natAbs) ++ UInt8.ofNat (48 + d) :: es := by
    intro es
    by_cases c : R.natAbs < 10
    · rw [Lib.decDigits, dif_pos c, if_pos (by rw [hR]; omega), hd, Nat.mod_eq_of_lt c]; rfl
    · rw [Lib.decDigits, dif_neg c, if_neg (by rw [hR]; omega), hR, hd, List.append_assoc]; rfl
  have hn : Lib.decDigits n.natAbs = Lib.decDigits R.natAbs ++ ds := by
    rcases h with ⟨rfl, rfl⟩ | ⟨h1, h2, h3⟩
    · rw [List.append_nil]
    · rcases hgo with e | e
      · exact absurd e h1
      · exact h3 e
  rw [key] at hn
  refine ⟨by simp, fun e => ?_, fun e => ?_⟩
  · rw [if_pos (by omega)] at hn; exact hn
  · rw [if_neg (by omega)] at hn; exact hn

theorem gath_short {n R : Int} {ds : List UInt8} (h : Gath n R ds) (hgo : ds = [] ∨ R ≠ 0) (h0 : -9223372036854775808 ≤ n) (h1 : n ≤ 9223372036854775807) : ds.length ≤ 18 := by
  rcases h with ⟨rfl, _⟩ | ⟨h2, _, h3⟩
  · simp
  · rcases hgo with e | e
    · exact absurd e h2
    · have h4 := congrArg List.length (h3 e)
      rw [List.length_append, Lib.decDigits_length, Lib.decDigits_length] at h4
      have h5 := nDigits_le 18 n.natAbs (by omega)
      have h6 := Lib.nDigits_pos R.natAbs
      omega

theorem gath_end {n : Int} {ds : List UInt8} (h : Gath n 0 ds) (hne : ds ≠ []) (h0 : -9223372036854775808 ≤ n) (h1 : n ≤ 9223372036854775807) : Lib.itoa n = (if n < 0 then 45 :: ds else ds) ∧ ds.length ≤ 19 := by
  rcases h with ⟨e, _⟩ | ⟨_, h2, _⟩
  · exact absurd e hne
  · have h3 := h2 rfl
    have h4 := congrArg List.length h3
    rw [Lib.decDigits_length] at h4
    have h5 := nDigits_le 18 n.natAbs (by omega)
    refine ⟨?_, by omega⟩
    unfold Lib.itoa
    by_cases c : n < 0
    · rw [if_pos c, if_pos c, h3]
    · rw [if_neg c, if_neg c, ← h3, show n.toNat = n.natAbs by omega]

/-! ### memory -/
abbrev bv (b : UInt8) : Value := .int .u8 (b.toNat : Int)
/-- The bytes ds lie at the head of block g. -/
def Bytes (w : World) (g : Nat) (ds : List UInt8) : Prop := g < w.heap.size ∧ ∀ j u, (ds.map bv)[j]? = some u → w.cell? ((⟨g, 0, none⟩ : Addr).add j) = some u

theorem Bytes.alloc {w : World} {g : Nat} {ds : List UInt8} (h : Bytes w g ds) (o : Obj) : Bytes (w.alloc o) g ds :=
  ⟨by have := h.1; simp; omega, fun j u hu => (World.cell?_alloc_lt w o _ (by rw [Addr.add_lit]; exact h.1)).trans (h.2 j u hu)⟩

theorem bytes_own {w : World} {base : Nat} {v : Value} {n : Nat} {ds : List UInt8} (hn : n = ds.length) (h0 : ds ≠ []) (h : w.ownsRow base 5 1 v n (ds.map bv)) : ∃ g cap, v = .slice (some ⟨g, 0, none⟩) ds.length cap ∧ Bytes w g ds := by
  subst hn
  obtain ⟨g, cap, rfl, _, hlt⟩ := h.form (List.length_pos_iff.2 h0)
  exact ⟨g, cap, rfl, hlt, h.cells (g := g) rfl⟩

theorem info5 : (Tryd.prog.info? 5).map (fun i => (i.zero, i.size, i.bytes)) = some (some (.int .u8 0), 1, 1) := by kernel_rfl

theorem ret_str {a b : List UInt8} (h : a = b) : Ending.returned (.string ⟨a.toArray⟩) = .returned (.string ⟨b.toArray⟩) := by rw [h]

/-- THE LOOP -/
theorem digit_toNat {x : Int} {d : Nat} (h : x = (d : Int) ∧ d < 10) : 48 + x = ((UInt8.ofNat (48 + d)).toNat : Int) := by
  obtain ⟨rfl, h2⟩ := h
  rw [UInt8.toNat_ofNat']
  have : (48 + d) % 2 ^ 8 = 48 + d := Nat.mod_eq_of_lt (by omega)
  rw [this]; omega
theorem tmod_neg {R : Int} (h : R < 0) : R.tmod 10 = -((-R) % 10) := by
  have e : R = -(-R) := by omega
  rw [e, Int.neg_tmod, Int.neg_neg, Int.tmod_eq_emod_of_nonneg (by omega)]
theorem tdiv_neg {R : Int} (h : R < 0) : R.tdiv 10 = -((-R) / 10) := by
  have e : R = -(-R) := by omega
  rw [e, Int.neg_tdiv, Int.neg_neg, Int.tdiv_eq_ediv_of_nonneg (by omega)]
theorem one_max : 1 ≤ maxLen := by unfold maxLen; omega
theorem bv_one (ds : List UInt8) : ∀ u ∈ ds.map bv, u.oneCell' = true := by
  intro u hu
  obtain ⟨b, _, rfl⟩ := List.mem_map.1 hu
  rfl

theorem bytes_string {w : World} {g cap : Nat} {ds : List UInt8} (h : Bytes w g ds) : (convert 62 9 (.slice (some ⟨g, 0, none⟩) ds.length cap)).run Tryd.prog w = .ok (.string ⟨ds.toArray⟩) w :=
  run_convert_bytes_back w 62 9 5 ⟨g, 0, none⟩ cap ds Tryd.underlying62 Tryd.underlying5 Tryd.underlying9 fun j hj => h.2 j _ (by simp [hj])

def lenOf : Value → Nat
  | .slice _ l _ => 1 - l
  | _ => 0

end Go.Proofs.YteibkechlkjpgabDoor
