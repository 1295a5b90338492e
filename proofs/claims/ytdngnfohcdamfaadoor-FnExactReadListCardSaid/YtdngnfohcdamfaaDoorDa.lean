/-
  The decimal digits of a number: the reference's loop gives the numeral. No condition but that the number is an int64.
-/
import Derived.Test.YtdngnfohcdamfaaDoorProg
import Derived.WalkKit
import Derived.Below
import Derived.Lib.Hide
import Derived.Lib.ItoaNum
import Derived.Lib.LaidTab
import Derived.Laws.IdiomStrings
import Derived.Laws.Rows
import Derived.Deep.Draws
import Derived.Deep.AppendLies
import Derived.OwnWalk
set_option linter.unusedVariables false
namespace Go.Proofs.YtdngnfohcdamfaaDoor
open Go.RowKit

/-! ### plain -/
theorem nDigits_le : ∀ (k u : Nat), u < 10 ^ (k + 1) → Lib.nDigits u ≤ k + 1
  | 0, u, h => by rw [Lib.nDigits_small (by simpa using h)]; exact Nat.le_refl _
  | k + 1, u, h => by
    by_cases c : u < 10
    · rw [Lib.nDigits_small c]; omega
    · rw [Lib.nDigits_big c]
      have := nDigits_le k (u / 10) (by rw [Nat.pow_succ] at h; omega)
      omega

/-- What has been gathered of |n| so far, when R is left. -/
def Gath (n R : Int) (ds : List UInt8) : Prop :=
  (ds = [] ∧ R = n) ∨ (ds ≠ [] ∧ (R = 0 → Lib.decDigits n.natAbs = ds) ∧ (R ≠ 0 → Lib.decDigits n.natAbs = Lib.decDigits R.natAbs ++ ds))

theorem gath_step {n R R' : Int} {ds : List UInt8} (h : Gath n R ds) (hgo : ds = [] ∨ R ≠ 0) {d : Nat} (hd : d = R.natAbs % 10) (hR : R'.natAbs = R.natAbs / 10) : Gath n R' (UInt8.ofNat (48 + d) :: ds) := by
  right
  have key : ∀ es : List UInt8, Lib.decDigits R.natAbs ++ es = (if R'.natAbs = 0 then [] else Lib.decDigits R'.natAbs) ++ UInt8.ofNat (48 + d) :: es := by
    intro es
    by_cases c : R.natAbs < 10
    · rw [Lib.decDigits, dif_pos c, if_pos (by rw [hR]; omega), hd, Nat.mod_eq_of_lt c]; rfl
    · rw [Lib.decDigits, dif_neg c, if_neg (by rw [hR]; omega), hR, hd, List.append_assoc]; rfl
  have hn : Lib.decDigits n.natAbs = Lib.decDigits R.natAbs ++ ds := by
    rcases h with ⟨rfl, rfl⟩ | ⟨h1, h2, h3⟩
    · rw [List.append_nil]
    · rcases hgo with e | e
      · exact absurd e h1
      · exact h3 e
  rw [key] at hn
  refine ⟨by simp, fun e => ?_, fun e => ?_⟩
  · rw [if_pos (by omega)] at hn; exact hn
  · rw [if_neg (by omega)] at hn; exact hn

theorem gath_short {n R : Int} {ds : List UInt8} (h : Gath n R ds) (hgo : ds = [] ∨ R ≠ 0) (h0 : -9223372036854775808 ≤ n) (h1 : n ≤ 9223372036854775807) : ds.length ≤ 18 := by
  rcases h with ⟨rfl, _⟩ | ⟨h2, _, h3⟩
  · simp
  · rcases hgo with e | e
    · exact absurd e h2
    · have h4 := congrArg List.length (h3 e)
      rw [List.length_append, Lib.decDigits_length, Lib.decDigits_length] at h4
      have h5 := nDigits_le 18 n.natAbs (by omega)
      have h6 := Lib.nDigits_pos R.natAbs
      omega

theorem gath_end {n : Int} {ds : List UInt8} (h : Gath n 0 ds) (hne : ds ≠ []) (h0 : -9223372036854775808 ≤ n) (h1 : n ≤ 9223372036854775807) : Lib.itoa n = (if n < 0 then 45 :: ds else ds) ∧ ds.length ≤ 19 := by
  rcases h with ⟨e, _⟩ | ⟨_, h2, _⟩
  · exact absurd e hne
  · have h3 := h2 rfl
    have h4 := congrArg List.length h3
    rw [Lib.decDigits_length] at h4
    have h5 := nDigits_le 18 n.natAbs (by omega)
    refine ⟨?_, by omega⟩
    unfold Lib.itoa
    by_cases c : n < 0
    · rw [if_pos c, if_pos c, h3]
    · rw [if_neg c, if_neg c, ← h3, show n.toNat = n.natAbs by omega]

/-! ### memory -/
abbrev bv (b : UInt8) : Value := .int .u8 (b.toNat : Int)
/-- The bytes ds lie at the head of block g. -/
def Bytes (w : World) (g : Nat) (ds : List UInt8) : Prop := g < w.heap.size ∧ ∀ j u, (ds.map bv)[j]? = some u → w.cell? ((⟨g, 0, none⟩ : Addr).add j) = some u

theorem Bytes.alloc {w : World} {g : Nat} {ds : List UInt8} (h : Bytes w g ds) (o : Obj) : Bytes (w.alloc o) g ds :=
  ⟨by have := h.1; simp; omega, fun j u hu => (World.cell?_alloc_lt w o _ (by rw [Addr.add_lit]; exact h.1)).trans (h.2 j u hu)⟩

theorem bytes_own {w : World} {base : Nat} {v : Value} {n : Nat} {ds : List UInt8} (hn : n = ds.length) (h0 : ds ≠ []) (h : w.ownsRow base 5 1 v n (ds.map bv)) : ∃ g cap, v = .slice (some ⟨g, 0, none⟩) ds.length cap ∧ Bytes w g ds := by
  subst hn
  obtain ⟨g, cap, rfl, _, hlt⟩ := h.form (List.length_pos_iff.2 h0)
  exact ⟨g, cap, rfl, hlt, h.cells (g := g) rfl⟩

theorem info5 : (Tryd.prog.info? 5).map (fun i => (i.zero, i.size, i.bytes)) = some (some (.int .u8 0), 1, 1) := by kernel_rfl

theorem ret_str {a b : List UInt8} (h : a = b) : Ending.returned (.string ⟨a.toArray⟩) = .returned (.string ⟨b.toArray⟩) := by rw [h]

/-- THE LOOP -/
theorem digit_toNat {x : Int} {d : Nat} (h : x = (d : Int) ∧ d < 10) : 48 + x = ((UInt8.ofNat (48 + d)).toNat : Int) := by
  obtain ⟨rfl, h2⟩ := h
  rw [UInt8.toNat_ofNat']
  have : (48 + d) % 2 ^ 8 = 48 + d := Nat.mod_eq_of_lt (by omega)
  rw [this]; omega
theorem tmod_neg {R : Int} (h : R < 0) : R.tmod 10 = -((-R) % 10) := by
  have e : R = -(-R) := by omega
  rw [e, Int.neg_tmod, Int.neg_neg, Int.tmod_eq_emod_of_nonneg (by omega)]
theorem tdiv_neg {R : Int} (h : R < 0) : R.tdiv 10 = -((-R) / 10) := by
  have e : R = -(-R) := by omega
  rw [e, Int.neg_tdiv, Int.neg_neg, Int.tdiv_eq_ediv_of_nonneg (by omega)]
theorem one_max : 1 ≤ maxLen := by unfold maxLen; omega
theorem bv_one (ds : List UInt8) : ∀ u ∈ ds.map bv, u.oneCell' = true := by
  intro u hu
  obtain ⟨b, _, rfl⟩ := List.mem_map.1 hu
  rfl

theorem bytes_string {w : World} {g cap : Nat} {ds : List UInt8} (h : Bytes w g ds) : (convert 45 9 (.slice (some ⟨g, 0, none⟩) ds.length cap)).run Tryd.prog w = .ok (.string ⟨ds.toArray⟩) w :=
  run_convert_bytes_back w 45 9 5 ⟨g, 0, none⟩ cap ds Tryd.underlying45 Tryd.underlying5 Tryd.underlying9 fun j hj => h.2 j _ (by simp [hj])

def lenOf : Value → Nat
  | .slice _ l _ => 1 - l
  | _ => 0

set_option maxHeartbeats 4000000 in
theorem c_spec_l01Dec {n : Int} (h0 : -9223372036854775808 ≤ n) (h1 : n ≤ 9223372036854775807) (w : World) :
    Calls Tryd.prog 19 #[.int .i64 n] w fun e w' => e = .returned (.string ⟨(Lib.itoa n).toArray⟩) ∧ Below w.heap.size w w' := by
  obtain ⟨i0, hi, hz0, hz1, hz2⟩ := info_parts info5
  have HI := Lib.hid (And.intro hi (And.intro hz0 (And.intro hz1 hz2)))
  clear hi hz0 hz1 hz2
  go_enter Tryd.func19, Tryd.ntmps19
  go_wp2_with fail
  go_loopw [3, 4] (fun v r wr => ∃ (R : Int) (ds : List UInt8) (g cap : Nat), v = .slice (some ⟨g, 0, none⟩) ds.length cap ∧ r = .int .i64 R ∧ Gath n R ds ∧ Bytes wr g ds ∧ -9223372036854775808 ≤ R ∧ R ≤ 9223372036854775807 ∧ Below w.heap.size w wr)
    (fun v r _ => (intOf r).natAbs * 2 + lenOf v)
  case atStart => exact ⟨n, [], w.heap.size, 0, rfl, rfl, Or.inl ⟨rfl, rfl⟩, ⟨by simp, fun j u hu => by simp at hu⟩, h0, h1, by (repeat (first | exact Below.refl _ _ | (refine below_drewN ?_ _) | (refine Below.drew ?_) | (refine Below.setCell ?_ (by first | omega | (simp; try omega)) _) | (refine Below.alloc ?_ (by first | omega | (simp; try omega)) _) | (refine Below.trans ?_ (Below.mono (by assumption) (by first | omega | (simp; try omega))))))⟩
  case round =>
    obtain ⟨R, ds, g, cap, rfl, rfl, hG, hB, hR0, hR1, hbw⟩ := hrel
    have hsz := hbw.size
    by_cases hgo : ds = [] ∨ R ≠ 0
    · have hs := gath_short hG hgo h0 h1
      have hR : True := trivial
      have HN := Lib.hid (And.intro hG (And.intro hgo (And.intro hB (And.intro hR hbw))))
      have e1 : (((ds.length : Nat) : Int) == 0) = false → (R != 0) = true := by
        intro e
        rcases hgo with rfl | e2
        · simp at e
        · simpa using e2
      by_cases hne : 0 ≤ R
      · have hd0 : 0 ≤ R % 10 := by omega
        have hd1 : R % 10 ≤ 9 := by omega
        have hd2 : ¬ (R % 10 < 0) := by omega
        cases hz : (((ds.length : Nat) : Int) == 0) with
        | true =>
          clear e1 hG hgo hB hR hbw
          go_wp2_with (at_builtin; refine wpList_append_own _ rfl _ _ 45 rfl w.heap.size 5 i0 (.int .u8 0) 1 1 Tryd.underlying45 HI.out.1 HI.out.2.1 HI.out.2.2.1 HI.out.2.2.2 rfl (by decide) _ _ [.int .u8 (48 + R % 10)] rfl (World.ownsRow_lit wr #[.int .u8 (48 + R % 10)] 1 hsz one_max rfl) ⟨g, 0, none⟩ ds.length cap (ds.map bv) rfl (by simp) (HN.out.2.2.1.alloc _).2 ?b1 ?b2 ?b3 ?b4 ?_)
          case b1 => exact fun _ _ => rfl
          case b2 => unfold maxLen; omega
          case b3 => omega
          case b4 => first | omega | (simp; omega)
          intro v3 w3 hown hgrow _
          obtain ⟨hG, hgo, hB, hR, hbw⟩ := HN.out
          have hdd : (48 + R % 10 : Int) = ((UInt8.ofNat (48 + R.natAbs % 10)).toNat : Int) := digit_toNat (by omega)
          rw [hdd] at hown
          have hown2 : w3.ownsRow w.heap.size 5 1 v3 (UInt8.ofNat (48 + R.natAbs % 10) :: ds).length ((UInt8.ofNat (48 + R.natAbs % 10) :: ds).map bv) := by
            have e : 1 + ds.length = (UInt8.ofNat (48 + R.natAbs % 10) :: ds).length := by simp; omega
            rw [← e]; exact hown
          obtain ⟨g3, cap3, rfl, hB3⟩ := bytes_own rfl (by simp) hown2
          have hbw3 : Below w.heap.size w w3 := (hbw.alloc hsz _).grown hgrow (by simp; omega) (fun k hk => by simp [Value.ownBlock] at hk; omega)
          have hG3 : Gath n (R / 10) (UInt8.ofNat (48 + R.natAbs % 10) :: ds) := gath_step hG hgo rfl (by omega)
          have HK := Lib.hid (And.intro hG3 (And.intro hB3 hbw3))
          have hmz : ds.length = 0 ∨ R ≠ 0 := by rcases hgo with e | e; exact Or.inl (by rw [e]; rfl); exact Or.inr e
          clear hG hgo hB hR hbw hown hown2 hgrow hdd hG3 hB3 hbw3 HN
          go_wp2_with fail
          go_roundw
          case rel => exact ⟨R / 10, _, g3, cap3, rfl, rfl, HK.out.1, HK.out.2.1, by omega, by omega, HK.out.2.2⟩
          case measure => simp [intOf, lenOf]; omega
        | false =>
          have hz2 := e1 hz
          clear e1 hG hgo hB hR hbw
          go_wp2_with (at_builtin; refine wpList_append_own _ rfl _ _ 45 rfl w.heap.size 5 i0 (.int .u8 0) 1 1 Tryd.underlying45 HI.out.1 HI.out.2.1 HI.out.2.2.1 HI.out.2.2.2 rfl (by decide) _ _ [.int .u8 (48 + R % 10)] rfl (World.ownsRow_lit wr #[.int .u8 (48 + R % 10)] 1 hsz one_max rfl) ⟨g, 0, none⟩ ds.length cap (ds.map bv) rfl (by simp) (HN.out.2.2.1.alloc _).2 ?b1 ?b2 ?b3 ?b4 ?_)
          case b1 => exact fun _ _ => rfl
          case b2 => unfold maxLen; omega
          case b3 => omega
          case b4 => first | omega | (simp; omega)
          intro v3 w3 hown hgrow _
          obtain ⟨hG, hgo, hB, hR, hbw⟩ := HN.out
          have hdd : (48 + R % 10 : Int) = ((UInt8.ofNat (48 + R.natAbs % 10)).toNat : Int) := digit_toNat (by omega)
          rw [hdd] at hown
          have hown2 : w3.ownsRow w.heap.size 5 1 v3 (UInt8.ofNat (48 + R.natAbs % 10) :: ds).length ((UInt8.ofNat (48 + R.natAbs % 10) :: ds).map bv) := by
            have e : 1 + ds.length = (UInt8.ofNat (48 + R.natAbs % 10) :: ds).length := by simp; omega
            rw [← e]; exact hown
          obtain ⟨g3, cap3, rfl, hB3⟩ := bytes_own rfl (by simp) hown2
          have hbw3 : Below w.heap.size w w3 := (hbw.alloc hsz _).grown hgrow (by simp; omega) (fun k hk => by simp [Value.ownBlock] at hk; omega)
          have hG3 : Gath n (R / 10) (UInt8.ofNat (48 + R.natAbs % 10) :: ds) := gath_step hG hgo rfl (by omega)
          have HK := Lib.hid (And.intro hG3 (And.intro hB3 hbw3))
          have hmz : ds.length = 0 ∨ R ≠ 0 := by rcases hgo with e | e; exact Or.inl (by rw [e]; rfl); exact Or.inr e
          clear hG hgo hB hR hbw hown hown2 hgrow hdd hG3 hB3 hbw3 HN
          go_wp2_with fail
          go_roundw
          case rel => exact ⟨R / 10, _, g3, cap3, rfl, rfl, HK.out.1, HK.out.2.1, by omega, by omega, HK.out.2.2⟩
          case measure => simp [intOf, lenOf]; omega
      · have ht : R.tmod 10 = -((-R) % 10) := tmod_neg (by omega)
        have htq : R.tdiv 10 = -((-R) / 10) := tdiv_neg (by omega)
        have hd0 : R.tmod 10 ≤ 0 := by omega
        have hd1 : -9 ≤ R.tmod 10 := by omega
        by_cases hd2 : R.tmod 10 < 0
        · cases hz : (((ds.length : Nat) : Int) == 0) with
          | true =>
            clear e1 hG hgo hB hR hbw
            go_wp2_with (at_builtin; refine wpList_append_own _ rfl _ _ 45 rfl w.heap.size 5 i0 (.int .u8 0) 1 1 Tryd.underlying45 HI.out.1 HI.out.2.1 HI.out.2.2.1 HI.out.2.2.2 rfl (by decide) _ _ [.int .u8 (48 + (-R % 10))] rfl (World.ownsRow_lit wr #[.int .u8 (48 + (-R % 10))] 1 hsz one_max rfl) ⟨g, 0, none⟩ ds.length cap (ds.map bv) rfl (by simp) (HN.out.2.2.1.alloc _).2 ?b1 ?b2 ?b3 ?b4 ?_)
            case b1 => exact fun _ _ => rfl
            case b2 => unfold maxLen; omega
            case b3 => omega
            case b4 => first | omega | (simp; omega)
            intro v3 w3 hown hgrow _
            obtain ⟨hG, hgo, hB, hR, hbw⟩ := HN.out
            have hdd : (48 + (-R % 10) : Int) = ((UInt8.ofNat (48 + R.natAbs % 10)).toNat : Int) := digit_toNat (by omega)
            rw [hdd] at hown
            have hown2 : w3.ownsRow w.heap.size 5 1 v3 (UInt8.ofNat (48 + R.natAbs % 10) :: ds).length ((UInt8.ofNat (48 + R.natAbs % 10) :: ds).map bv) := by
              have e : 1 + ds.length = (UInt8.ofNat (48 + R.natAbs % 10) :: ds).length := by simp; omega
              rw [← e]; exact hown
            obtain ⟨g3, cap3, rfl, hB3⟩ := bytes_own rfl (by simp) hown2
            have hbw3 : Below w.heap.size w w3 := (hbw.alloc hsz _).grown hgrow (by simp; omega) (fun k hk => by simp [Value.ownBlock] at hk; omega)
            have hG3 : Gath n (-(-R / 10)) (UInt8.ofNat (48 + R.natAbs % 10) :: ds) := gath_step hG hgo rfl (by omega)
            have HK := Lib.hid (And.intro hG3 (And.intro hB3 hbw3))
            have hmz : ds.length = 0 ∨ R ≠ 0 := by rcases hgo with e | e; exact Or.inl (by rw [e]; rfl); exact Or.inr e
            clear hG hgo hB hR hbw hown hown2 hgrow hdd hG3 hB3 hbw3 HN
            go_wp2_with fail
            go_roundw
            case rel => exact ⟨-(-R / 10), _, g3, cap3, rfl, rfl, HK.out.1, HK.out.2.1, by omega, by omega, HK.out.2.2⟩
            case measure => simp [intOf, lenOf]; omega
          | false =>
            have hz2 := e1 hz
            clear e1 hG hgo hB hR hbw
            go_wp2_with (at_builtin; refine wpList_append_own _ rfl _ _ 45 rfl w.heap.size 5 i0 (.int .u8 0) 1 1 Tryd.underlying45 HI.out.1 HI.out.2.1 HI.out.2.2.1 HI.out.2.2.2 rfl (by decide) _ _ [.int .u8 (48 + (-R % 10))] rfl (World.ownsRow_lit wr #[.int .u8 (48 + (-R % 10))] 1 hsz one_max rfl) ⟨g, 0, none⟩ ds.length cap (ds.map bv) rfl (by simp) (HN.out.2.2.1.alloc _).2 ?b1 ?b2 ?b3 ?b4 ?_)
            case b1 => exact fun _ _ => rfl
            case b2 => unfold maxLen; omega
            case b3 => omega
            case b4 => first | omega | (simp; omega)
            intro v3 w3 hown hgrow _
            obtain ⟨hG, hgo, hB, hR, hbw⟩ := HN.out
            have hdd : (48 + (-R % 10) : Int) = ((UInt8.ofNat (48 + R.natAbs % 10)).toNat : Int) := digit_toNat (by omega)
            rw [hdd] at hown
            have hown2 : w3.ownsRow w.heap.size 5 1 v3 (UInt8.ofNat (48 + R.natAbs % 10) :: ds).length ((UInt8.ofNat (48 + R.natAbs % 10) :: ds).map bv) := by
              have e : 1 + ds.length = (UInt8.ofNat (48 + R.natAbs % 10) :: ds).length := by simp; omega
              rw [← e]; exact hown
            obtain ⟨g3, cap3, rfl, hB3⟩ := bytes_own rfl (by simp) hown2
            have hbw3 : Below w.heap.size w w3 := (hbw.alloc hsz _).grown hgrow (by simp; omega) (fun k hk => by simp [Value.ownBlock] at hk; omega)
            have hG3 : Gath n (-(-R / 10)) (UInt8.ofNat (48 + R.natAbs % 10) :: ds) := gath_step hG hgo rfl (by omega)
            have HK := Lib.hid (And.intro hG3 (And.intro hB3 hbw3))
            have hmz : ds.length = 0 ∨ R ≠ 0 := by rcases hgo with e | e; exact Or.inl (by rw [e]; rfl); exact Or.inr e
            clear hG hgo hB hR hbw hown hown2 hgrow hdd hG3 hB3 hbw3 HN
            go_wp2_with fail
            go_roundw
            case rel => exact ⟨-(-R / 10), _, g3, cap3, rfl, rfl, HK.out.1, HK.out.2.1, by omega, by omega, HK.out.2.2⟩
            case measure => simp [intOf, lenOf]; omega
        · cases hz : (((ds.length : Nat) : Int) == 0) with
          | true =>
            clear e1 hG hgo hB hR hbw
            go_wp2_with (at_builtin; refine wpList_append_own _ rfl _ _ 45 rfl w.heap.size 5 i0 (.int .u8 0) 1 1 Tryd.underlying45 HI.out.1 HI.out.2.1 HI.out.2.2.1 HI.out.2.2.2 rfl (by decide) _ _ [.int .u8 (48 + -(-R % 10))] rfl (World.ownsRow_lit wr #[.int .u8 (48 + -(-R % 10))] 1 hsz one_max rfl) ⟨g, 0, none⟩ ds.length cap (ds.map bv) rfl (by simp) (HN.out.2.2.1.alloc _).2 ?b1 ?b2 ?b3 ?b4 ?_)
            case b1 => exact fun _ _ => rfl
            case b2 => unfold maxLen; omega
            case b3 => omega
            case b4 => first | omega | (simp; omega)
            intro v3 w3 hown hgrow _
            obtain ⟨hG, hgo, hB, hR, hbw⟩ := HN.out
            have hdd : (48 + -(-R % 10) : Int) = ((UInt8.ofNat (48 + R.natAbs % 10)).toNat : Int) := digit_toNat (by omega)
            rw [hdd] at hown
            have hown2 : w3.ownsRow w.heap.size 5 1 v3 (UInt8.ofNat (48 + R.natAbs % 10) :: ds).length ((UInt8.ofNat (48 + R.natAbs % 10) :: ds).map bv) := by
              have e : 1 + ds.length = (UInt8.ofNat (48 + R.natAbs % 10) :: ds).length := by simp; omega
              rw [← e]; exact hown
            obtain ⟨g3, cap3, rfl, hB3⟩ := bytes_own rfl (by simp) hown2
            have hbw3 : Below w.heap.size w w3 := (hbw.alloc hsz _).grown hgrow (by simp; omega) (fun k hk => by simp [Value.ownBlock] at hk; omega)
            have hG3 : Gath n (-(-R / 10)) (UInt8.ofNat (48 + R.natAbs % 10) :: ds) := gath_step hG hgo rfl (by omega)
            have HK := Lib.hid (And.intro hG3 (And.intro hB3 hbw3))
            have hmz : ds.length = 0 ∨ R ≠ 0 := by rcases hgo with e | e; exact Or.inl (by rw [e]; rfl); exact Or.inr e
            clear hG hgo hB hR hbw hown hown2 hgrow hdd hG3 hB3 hbw3 HN
            go_wp2_with fail
            go_roundw
            case rel => exact ⟨-(-R / 10), _, g3, cap3, rfl, rfl, HK.out.1, HK.out.2.1, by omega, by omega, HK.out.2.2⟩
            case measure => simp [intOf, lenOf]; omega
          | false =>
            have hz2 := e1 hz
            clear e1 hG hgo hB hR hbw
            go_wp2_with (at_builtin; refine wpList_append_own _ rfl _ _ 45 rfl w.heap.size 5 i0 (.int .u8 0) 1 1 Tryd.underlying45 HI.out.1 HI.out.2.1 HI.out.2.2.1 HI.out.2.2.2 rfl (by decide) _ _ [.int .u8 (48 + -(-R % 10))] rfl (World.ownsRow_lit wr #[.int .u8 (48 + -(-R % 10))] 1 hsz one_max rfl) ⟨g, 0, none⟩ ds.length cap (ds.map bv) rfl (by simp) (HN.out.2.2.1.alloc _).2 ?b1 ?b2 ?b3 ?b4 ?_)
            case b1 => exact fun _ _ => rfl
            case b2 => unfold maxLen; omega
            case b3 => omega
            case b4 => first | omega | (simp; omega)
            intro v3 w3 hown hgrow _
            obtain ⟨hG, hgo, hB, hR, hbw⟩ := HN.out
            have hdd : (48 + -(-R % 10) : Int) = ((UInt8.ofNat (48 + R.natAbs % 10)).toNat : Int) := digit_toNat (by omega)
            rw [hdd] at hown
            have hown2 : w3.ownsRow w.heap.size 5 1 v3 (UInt8.ofNat (48 + R.natAbs % 10) :: ds).length ((UInt8.ofNat (48 + R.natAbs % 10) :: ds).map bv) := by
              have e : 1 + ds.length = (UInt8.ofNat (48 + R.natAbs % 10) :: ds).length := by simp; omega
              rw [← e]; exact hown
            obtain ⟨g3, cap3, rfl, hB3⟩ := bytes_own rfl (by simp) hown2
            have hbw3 : Below w.heap.size w w3 := (hbw.alloc hsz _).grown hgrow (by simp; omega) (fun k hk => by simp [Value.ownBlock] at hk; omega)
            have hG3 : Gath n (-(-R / 10)) (UInt8.ofNat (48 + R.natAbs % 10) :: ds) := gath_step hG hgo rfl (by omega)
            have HK := Lib.hid (And.intro hG3 (And.intro hB3 hbw3))
            have hmz : ds.length = 0 ∨ R ≠ 0 := by rcases hgo with e | e; exact Or.inl (by rw [e]; rfl); exact Or.inr e
            clear hG hgo hB hR hbw hown hown2 hgrow hdd hG3 hB3 hbw3 HN
            go_wp2_with fail
            go_roundw
            case rel => exact ⟨-(-R / 10), _, g3, cap3, rfl, rfl, HK.out.1, HK.out.2.1, by omega, by omega, HK.out.2.2⟩
            case measure => simp [intOf, lenOf]; omega
    · have hne : ds ≠ [] := fun e => hgo (Or.inl e)
      obtain rfl : R = 0 := by
        by_cases e : R = 0
        · exact e
        · exact absurd (Or.inr e) hgo
      obtain ⟨hit, hl⟩ := gath_end hG hne h0 h1
      have hz : (((ds.length : Nat) : Int) == 0) = false := beq_eq_false_iff_ne.2 (by have := List.length_pos_iff.2 hne; omega)
      have HI2 := Lib.hid hit
      clear hit hG hgo hR0 hR1 hne
      by_cases hneg : n < 0
      · have HN := Lib.hid (And.intro hB hbw)
        clear hB hbw
        go_wp2_with (at_builtin; refine wpList_append_own _ rfl _ _ 45 rfl w.heap.size 5 i0 (.int .u8 0) 1 1 Tryd.underlying45 HI.out.1 HI.out.2.1 HI.out.2.2.1 HI.out.2.2.2 rfl (by decide) _ _ [.int .u8 45] rfl (World.ownsRow_lit wr #[.int .u8 45] 1 hsz one_max rfl) ⟨g, 0, none⟩ ds.length cap (ds.map bv) rfl (by simp) (HN.out.1.alloc _).2 ?b1 ?b2 ?b3 ?b4 ?_)
        case b1 => first | exact bv_one ds | exact fun _ _ => rfl
        case b2 => unfold maxLen; omega
        case b3 => omega
        case b4 => first | omega | (simp; omega)
        intro v3 w3 hown hgrow _
        have hbw3 : Below w.heap.size w w3 := (HN.out.2.alloc hsz _).grown hgrow (by simp; omega) (fun k hk => by simp [Value.ownBlock] at hk; omega)
        have hown2 : w3.ownsRow w.heap.size 5 1 v3 (45 :: ds).length (((45 : UInt8) :: ds).map bv) := by
          have e : 1 + ds.length = ((45 : UInt8) :: ds).length := by simp; omega
          rw [← e]; exact hown
        obtain ⟨es, hes⟩ : ∃ es : List UInt8, es = (45 : UInt8) :: ds := ⟨_, rfl⟩
        rw [← hes] at hown2
        obtain ⟨g3, cap3, rfl, hB3⟩ := bytes_own rfl (by rw [hes]; simp) hown2
        have hes2 := Lib.hid hes
        have hcv := bytes_string (cap := cap3) hB3
        have HK := Lib.hid hbw3
        clear hbw3 hown hown2 hgrow hB3 HN hes
        go_wp2_with fail
        go_ret
        exact ⟨ret_str (by rw [HI2.out, if_pos (by omega), hes2.out]), HK.out⟩
      · have hcv := bytes_string (cap := cap) hB
        clear hB
        go_wp2_with fail
        go_ret
        exact ⟨ret_str (by rw [HI2.out, if_neg (by omega)]), hbw⟩

end Go.Proofs.YtdngnfohcdamfaaDoor
