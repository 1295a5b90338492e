/-
  The matrix of a turn: nine numbers in a row of the call's own; rows that are marked and looked at. No condition.
-/
import Derived.Test.YtpfijbgkhekjfaaVl
import Derived.Test.YtpfijbgkhekjfaaVr
import Derived.Test.YtpfijbgkhekjfaaVu
import Derived.Maps.AppendAt
import Derived.Deep.AppendLies
set_option linter.unusedVariables false
namespace Go.Proofs.Ytpfijbgkhekjfaa
open Go.RowKit Go.Proofs.Ytpfijbgkhekjfaa.Fl

/-- The slice v owns floats of the classes cs. -/
def OwnL (w : World) (base : Nat) (v : Value) (cs : List (Option Nat)) : Prop :=
  ∃ xs, w.ownsRow base 22 1 v cs.length xs ∧ ∀ j, j < cs.length → ∃ z, xs[j]? = some (.float .f32 z) ∧ Fv .f32 z (cs.getD j none)

theorem own_below {w w' : World} {base : Nat} {e : TypeId} {size : Nat} {v : Value} {n : Nat} {xs : List Value} (h : w.ownsRow base e size v n xs) (hb : Below w.heap.size w w') : w'.ownsRow base e size v n xs := by
  obtain ⟨h1, h2⟩ := h
  refine ⟨h1, ?_⟩
  rcases h2 with h2 | ⟨g, cap, cur, hv, hbg, hg, hr⟩
  · exact Or.inl h2
  · refine Or.inr ⟨g, cap, cur, hv, hbg, ?_, hr⟩
    have hlt : g < w.heap.size := by
      rcases Nat.lt_or_ge g w.heap.size with hlt | hge
      · exact hlt
      · rw [Array.getElem?_eq_none hge] at hg; cases hg
    exact (hb.block g hlt).trans hg

theorem OwnL.below {w w' : World} {base : Nat} {v : Value} {cs : List (Option Nat)} (h : OwnL w base v cs) (hb : Below w.heap.size w w') : OwnL w' base v cs := by
  obtain ⟨xs, h1, h2⟩ := h
  exact ⟨xs, own_below h1 hb, h2⟩

theorem ownL_more {w : World} {base : Nat} {v : Value} {cs ds : List (Option Nat)} {xs ys : List Value} {m : Nat} (hm : m = ds.length) (hown : w.ownsRow base 22 1 v (cs.length + m) (xs ++ ys))
    (hl : xs.length = cs.length) (hx : ∀ j, j < cs.length → ∃ z, xs[j]? = some (.float .f32 z) ∧ Fv .f32 z (cs.getD j none)) (hy : ∀ j, j < ds.length → ∃ z, ys[j]? = some (.float .f32 z) ∧ Fv .f32 z (ds.getD j none)) : OwnL w base v (cs ++ ds) := by
  subst hm
  refine ⟨xs ++ ys, by rw [List.length_append]; exact hown, fun j hj => ?_⟩
  rw [List.length_append] at hj
  by_cases c : j < cs.length
  · obtain ⟨z, h1, h2⟩ := hx j c
    refine ⟨z, by rw [List.getElem?_append_left (by omega)]; exact h1, ?_⟩
    simpa [List.getD_eq_getElem?_getD, List.getElem?_append_left c] using h2
  · obtain ⟨z, h1, h2⟩ := hy (j - cs.length) (by omega)
    refine ⟨z, by rw [List.getElem?_append_right (by omega), hl]; exact h1, ?_⟩
    simpa [List.getD_eq_getElem?_getD, List.getElem?_append_right (by omega : cs.length ≤ j)] using h2

theorem OwnL.len {w : World} {base : Nat} {v : Value} {cs : List (Option Nat)} {xs : List Value} (h : w.ownsRow base 22 1 v cs.length xs) : xs.length = cs.length := by
  have := h.1; omega

/-- As a row. -/
theorem OwnL.row {w : World} {base : Nat} {v : Value} {cs : List (Option Nat)} (h : OwnL w base v cs) (hn : 0 < cs.length) : ∃ g cap, v = .slice (some ⟨g, 0, none⟩) cs.length cap ∧ base ≤ g ∧ Row w g cs.length cs := by
  obtain ⟨xs, h1, h2⟩ := h
  obtain ⟨g, cap, rfl, hb, hlt⟩ := h1.form hn
  refine ⟨g, cap, rfl, hb, hlt, fun j hj => ?_, fun o => h1.frozenAt o⟩
  obtain ⟨z, h3, h4⟩ := h2 j hj
  exact ⟨z, (h1.cellAt j (by omega)).trans h3, fun _ => h4⟩

/-! ### the nine numbers -/
def one5 : Option Nat := some 1065353216
def unitC (k : Nat) : V3 := match k with
  | 0 => ⟨one5, some 0, some 0⟩
  | 1 => ⟨some 0, one5, some 0⟩
  | _ => ⟨some 0, some 0, one5⟩
def matP (t : V4) : Nat → List (Option Nat)
  | 0 => []
  | k + 1 => matP t k ++ [(rotC t (unitC k)).x, (rotC t (unitC k)).y, (rotC t (unitC k)).z]
theorem matP_length (t : V4) : ∀ k, (matP t k).length = 3 * k
  | 0 => rfl
  | k + 1 => by rw [matP, List.length_append, matP_length t k]; simp; omega

/-- A row of one's own comes back, of whatever capacity. -/
def RetL (cs : List (Option Nat)) (w : World) (e : Ending) (w' : World) : Prop := ∃ g cap, e = .returned (.slice (some ⟨g, 0, none⟩) cs.length cap) ∧ w.heap.size ≤ g ∧ Row w' g cs.length cs ∧ Below w.heap.size w w'

theorem three_news {w : World} {g : Nat} {x y z : Nat} (h0 : w.cell? ⟨g, 0, none⟩ = some (.float .f32 x)) (h1 : w.cell? ⟨g, 1, none⟩ = some (.float .f32 y)) (h2 : w.cell? ⟨g, 2, none⟩ = some (.float .f32 z)) :
    ∀ j u, [Value.float .f32 x, .float .f32 y, .float .f32 z][j]? = some u → w.cell? ((⟨g, 0, none⟩ : Addr).add j) = some u := by
  intro j u hj
  match j, hj with
  | 0, hj => simp at hj; subst hj; simpa [Addr.add] using h0
  | 1, hj => simp at hj; subst hj; simpa [Addr.add] using h1
  | 2, hj => simp at hj; subst hj; simpa [Addr.add] using h2

theorem three_cls {V : V3} {x y z : Nat} (h : Fv3 x y z V) : ∀ j, j < [V.x, V.y, V.z].length → ∃ q, [Value.float .f32 x, .float .f32 y, .float .f32 z][j]? = some (.float .f32 q) ∧ Fv .f32 q ([V.x, V.y, V.z].getD j none) := by
  intro j hj
  match j, hj with
  | 0, _ => exact ⟨x, rfl, h.x⟩
  | 1, _ => exact ⟨y, rfl, h.y⟩
  | 2, _ => exact ⟨z, rfl, h.z⟩

theorem one_cls {c : Option Nat} {x : Nat} (h : Fv .f32 x c) : ∀ j, j < [c].length → ∃ q, [Value.float .f32 x][j]? = some (.float .f32 q) ∧ Fv .f32 q ([c].getD j none) := by
  intro j hj
  match j, hj with
  | 0, _ => exact ⟨x, rfl, h⟩

/-- The nine cells of the three unit vectors. -/
def Units (w : World) (b : Nat) : Prop := b < w.heap.size ∧
  w.cell? ⟨b, 0, none⟩ = some (.float .f32 1065353216) ∧ w.cell? ⟨b, 1, none⟩ = some (.float .f32 0) ∧ w.cell? ⟨b, 2, none⟩ = some (.float .f32 0) ∧
  w.cell? ⟨b, 3, none⟩ = some (.float .f32 0) ∧ w.cell? ⟨b, 4, none⟩ = some (.float .f32 1065353216) ∧ w.cell? ⟨b, 5, none⟩ = some (.float .f32 0) ∧
  w.cell? ⟨b, 6, none⟩ = some (.float .f32 0) ∧ w.cell? ⟨b, 7, none⟩ = some (.float .f32 0) ∧ w.cell? ⟨b, 8, none⟩ = some (.float .f32 1065353216)
theorem Units.below {w w' : World} {b : Nat} (h : Units w b) (hb : Below w.heap.size w w') : Units w' b := by
  obtain ⟨h, h0, h1, h2, h3, h4, h5, h6, h7, h8⟩ := h
  have hc := fun o => hb.cell (p := ⟨b, o, none⟩) h
  exact ⟨Nat.lt_of_lt_of_le h hb.size, (hc 0).trans h0, (hc 1).trans h1, (hc 2).trans h2, (hc 3).trans h3, (hc 4).trans h4, (hc 5).trans h5, (hc 6).trans h6, (hc 7).trans h7, (hc 8).trans h8⟩

set_option maxHeartbeats 16000000 in
set_option maxRecDepth 20000 in
theorem c_impl_MatrixOf {p x y z : Nat} {T : V4} (h : Fv4 p x y z T) (w : World) : Calls Try.prog 17 #[turn p x y z] w (RetL (matP T 3) w) := by
  obtain ⟨i0, hi, hz0, hz1, hz2⟩ := info_parts info22
  have HI := Lib.hid (And.intro hi (And.intro hz0 (And.intro hz1 hz2)))
  clear hi hz0 hz1 hz2
  go_enter Try.func17, Try.ntmps17
  go_wp2_with fail
  refine wp_name (fun wr => HasF4 wr w.heap.size p x y z ∧ Units wr (w.heap.size + 1) ∧ w.heap.size + 2 ≤ wr.heap.size ∧ Below w.heap.size w wr) ⟨⟨⟨by go_simp, by go_simp, by go_simp, by go_simp⟩, fun o => by go_simp⟩, ⟨by simp, by go_simp, by go_simp, by go_simp, by go_simp, by go_simp, by go_simp, by go_simp, by go_simp, by go_simp⟩, by simp, by (repeat (first | exact Below.refl _ _ | (refine below_drewN ?_ _) | (refine Below.drew ?_) | (refine Below.setCell ?_ (by first | omega | (simp; try omega)) _) | (refine Below.alloc ?_ (by first | omega | (simp; try omega)) _) | (refine Below.trans ?_ (Below.mono (by assumption) (by first | omega | (simp; try omega))))))⟩ ?_
  rintro W1 ⟨hp0, hu0, hsz, hbel⟩
  go_loopw [3, 12] (fun v i wr => ∃ k : Nat, k ≤ 3 ∧ i = .int .i64 k ∧ OwnL wr W1.heap.size v (matP T k) ∧ Below W1.heap.size W1 wr) (fun _ i _ => 3 - (intOf i).toNat)
  case atStart => exact ⟨0, Nat.zero_le _, rfl, ⟨[], World.ownsRow_nil _ _ _ _, fun j hj => absurd hj (Nat.not_lt_zero _)⟩, Below.refl _ _⟩
  case round =>
    obtain ⟨k, hk, rfl, hown, hbw⟩ := hrel
    have hcase : k = 0 ∨ k = 1 ∨ k = 2 ∨ k = 3 := by omega
    rcases hcase with rfl | rfl | rfl | rfl
    · have hp := hp0.below hbw
      obtain ⟨hub, u0, u1, u2, u3, u4, u5, u6, u7, u8⟩ := hu0.below hbw
      have hLr := hp.lt
      obtain ⟨⟨c0, c1, c2, c3⟩, fz0⟩ := hp
      have hLp := hp0.lt
      have hSb := hbw.size
      have HN := Lib.hid (And.intro hown (And.intro hbw (And.intro hbel (And.intro hp0 hu0))))
      clear hown hbw hbel hp0 hu0
      go_wp2_with fail
      refine (c_impl_RotateBy (Ca := unitC 0) h ⟨(fvc rfl : Fv .f32 1065353216 (some 1065353216)), (fvc rfl : Fv .f32 0 (some 0)), (fvc rfl : Fv .f32 0 (some 0))⟩ _).mono ?_
      rintro e w2 ⟨⟨x2, y2, z2, rfl, hv⟩, hb⟩
      obtain ⟨hown, hbw, hbel, hp0, hu0⟩ := HN.out
      have hown2 := (hown.below ((Below.refl _ _).alloc (Nat.le_refl _) _)).below hb
      have hbw2 := (hbw.alloc hSb _).trans (hb.mono (by simp; omega))
      obtain ⟨xs, hxo, hxc⟩ := hown2
      have HM := Lib.hid (And.intro hxc (And.intro hv (And.intro hbw2 (And.intro hbel (And.intro hp0 (And.intro hu0 HN))))))
      have hS2 := hbw2.size
      clear c0 c1 c2 c3 fz0 hub u0 u1 u2 u3 u4 u5 u6 u7 u8 hown hbw hbel hp0 hu0 hv hb hbw2 hxc HN
      obtain ⟨hi, hz0, hz1, hz2⟩ := id HI.out
      have HX := Lib.hid (And.intro hi (And.intro hz0 (And.intro hz1 (And.intro hz2 hxo))))
      clear hi hz0 hz1 hz2 hxo
      go_wp2_with (at_builtin; refine wpList_append_own _ rfl _ _ 37 rfl W1.heap.size 22 i0 (.float .f32 0) 1 4 Try.underlying37 HX.out.1 HX.out.2.1 HX.out.2.2.1 HX.out.2.2.2.1 rfl (by decide) _ _ xs rfl ((HX.out.2.2.2.2.alloc _).alloc _) ⟨w2.heap.size + 1, 0, none⟩ 3 3 [.float .f32 x2, .float .f32 y2, .float .f32 z2] rfl rfl ?c1 ?c2 ?c3 ?c4 ?c5 ?_)
      case c1 => exact three_news (by go_simp) (by go_simp) (by go_simp)
      case c2 => intro u hu; simp at hu; rcases hu with rfl | rfl | rfl <;> rfl
      case c3 => rw [matP_length]; unfold maxLen; omega
      case c4 => rw [matP_length]; omega
      case c5 => simp; omega
      · intro v3 w3 hown3 hgrow _
        obtain ⟨hxc, hv, hbw2, hbel, hp0, hu0, _⟩ := HM.out
        have hown4 : OwnL w3 W1.heap.size v3 (matP T 1) := ownL_more (ds := [(rotC T (unitC 0)).x, (rotC T (unitC 0)).y, (rotC T (unitC 0)).z]) rfl hown3 (OwnL.len HX.out.2.2.2.2) hxc (three_cls hv)
        have hbw3 : Below W1.heap.size W1 w3 := ((hbw2.alloc hS2 _).alloc (by simp; omega) _).grown hgrow (by simp; omega) (fun k hk => (HX.out.2.2.2.2.lt k hk).1)
        have HK := Lib.hid (And.intro hown4 hbw3)
        clear hown4 hbw3 hown3 hgrow hxc hv hbw2 HM
        go_wp2_with fail
        go_roundw
        case rel => exact ⟨1, by omega, by go_num, HK.out.1, HK.out.2⟩
        case measure => simp [intOf]
    · have hp := hp0.below hbw
      obtain ⟨hub, u0, u1, u2, u3, u4, u5, u6, u7, u8⟩ := hu0.below hbw
      have hLr := hp.lt
      obtain ⟨⟨c0, c1, c2, c3⟩, fz0⟩ := hp
      have hLp := hp0.lt
      have hSb := hbw.size
      have HN := Lib.hid (And.intro hown (And.intro hbw (And.intro hbel (And.intro hp0 hu0))))
      clear hown hbw hbel hp0 hu0
      go_wp2_with fail
      refine (c_impl_RotateBy (Ca := unitC 1) h ⟨(fvc rfl : Fv .f32 0 (some 0)), (fvc rfl : Fv .f32 1065353216 (some 1065353216)), (fvc rfl : Fv .f32 0 (some 0))⟩ _).mono ?_
      rintro e w2 ⟨⟨x2, y2, z2, rfl, hv⟩, hb⟩
      obtain ⟨hown, hbw, hbel, hp0, hu0⟩ := HN.out
      have hown2 := (hown.below ((Below.refl _ _).alloc (Nat.le_refl _) _)).below hb
      have hbw2 := (hbw.alloc hSb _).trans (hb.mono (by simp; omega))
      obtain ⟨xs, hxo, hxc⟩ := hown2
      have HM := Lib.hid (And.intro hxc (And.intro hv (And.intro hbw2 (And.intro hbel (And.intro hp0 (And.intro hu0 HN))))))
      have hS2 := hbw2.size
      clear c0 c1 c2 c3 fz0 hub u0 u1 u2 u3 u4 u5 u6 u7 u8 hown hbw hbel hp0 hu0 hv hb hbw2 hxc HN
      obtain ⟨hi, hz0, hz1, hz2⟩ := id HI.out
      have HX := Lib.hid (And.intro hi (And.intro hz0 (And.intro hz1 (And.intro hz2 hxo))))
      clear hi hz0 hz1 hz2 hxo
      go_wp2_with (at_builtin; refine wpList_append_own _ rfl _ _ 37 rfl W1.heap.size 22 i0 (.float .f32 0) 1 4 Try.underlying37 HX.out.1 HX.out.2.1 HX.out.2.2.1 HX.out.2.2.2.1 rfl (by decide) _ _ xs rfl ((HX.out.2.2.2.2.alloc _).alloc _) ⟨w2.heap.size + 1, 0, none⟩ 3 3 [.float .f32 x2, .float .f32 y2, .float .f32 z2] rfl rfl ?c1 ?c2 ?c3 ?c4 ?c5 ?_)
      case c1 => exact three_news (by go_simp) (by go_simp) (by go_simp)
      case c2 => intro u hu; simp at hu; rcases hu with rfl | rfl | rfl <;> rfl
      case c3 => rw [matP_length]; unfold maxLen; omega
      case c4 => rw [matP_length]; omega
      case c5 => simp; omega
      · intro v3 w3 hown3 hgrow _
        obtain ⟨hxc, hv, hbw2, hbel, hp0, hu0, _⟩ := HM.out
        have hown4 : OwnL w3 W1.heap.size v3 (matP T 2) := ownL_more (ds := [(rotC T (unitC 1)).x, (rotC T (unitC 1)).y, (rotC T (unitC 1)).z]) rfl hown3 (OwnL.len HX.out.2.2.2.2) hxc (three_cls hv)
        have hbw3 : Below W1.heap.size W1 w3 := ((hbw2.alloc hS2 _).alloc (by simp; omega) _).grown hgrow (by simp; omega) (fun k hk => (HX.out.2.2.2.2.lt k hk).1)
        have HK := Lib.hid (And.intro hown4 hbw3)
        clear hown4 hbw3 hown3 hgrow hxc hv hbw2 HM
        go_wp2_with fail
        go_roundw
        case rel => exact ⟨2, by omega, by go_num, HK.out.1, HK.out.2⟩
        case measure => simp [intOf]
    · have hp := hp0.below hbw
      obtain ⟨hub, u0, u1, u2, u3, u4, u5, u6, u7, u8⟩ := hu0.below hbw
      have hLr := hp.lt
      obtain ⟨⟨c0, c1, c2, c3⟩, fz0⟩ := hp
      have hLp := hp0.lt
      have hSb := hbw.size
      have HN := Lib.hid (And.intro hown (And.intro hbw (And.intro hbel (And.intro hp0 hu0))))
      clear hown hbw hbel hp0 hu0
      go_wp2_with fail
      refine (c_impl_RotateBy (Ca := unitC 2) h ⟨(fvc rfl : Fv .f32 0 (some 0)), (fvc rfl : Fv .f32 0 (some 0)), (fvc rfl : Fv .f32 1065353216 (some 1065353216))⟩ _).mono ?_
      rintro e w2 ⟨⟨x2, y2, z2, rfl, hv⟩, hb⟩
      obtain ⟨hown, hbw, hbel, hp0, hu0⟩ := HN.out
      have hown2 := (hown.below ((Below.refl _ _).alloc (Nat.le_refl _) _)).below hb
      have hbw2 := (hbw.alloc hSb _).trans (hb.mono (by simp; omega))
      obtain ⟨xs, hxo, hxc⟩ := hown2
      have HM := Lib.hid (And.intro hxc (And.intro hv (And.intro hbw2 (And.intro hbel (And.intro hp0 (And.intro hu0 HN))))))
      have hS2 := hbw2.size
      clear c0 c1 c2 c3 fz0 hub u0 u1 u2 u3 u4 u5 u6 u7 u8 hown hbw hbel hp0 hu0 hv hb hbw2 hxc HN
      obtain ⟨hi, hz0, hz1, hz2⟩ := id HI.out
      have HX := Lib.hid (And.intro hi (And.intro hz0 (And.intro hz1 (And.intro hz2 hxo))))
      clear hi hz0 hz1 hz2 hxo
      go_wp2_with (at_builtin; refine wpList_append_own _ rfl _ _ 37 rfl W1.heap.size 22 i0 (.float .f32 0) 1 4 Try.underlying37 HX.out.1 HX.out.2.1 HX.out.2.2.1 HX.out.2.2.2.1 rfl (by decide) _ _ xs rfl ((HX.out.2.2.2.2.alloc _).alloc _) ⟨w2.heap.size + 1, 0, none⟩ 3 3 [.float .f32 x2, .float .f32 y2, .float .f32 z2] rfl rfl ?c1 ?c2 ?c3 ?c4 ?c5 ?_)
      case c1 => exact three_news (by go_simp) (by go_simp) (by go_simp)
      case c2 => intro u hu; simp at hu; rcases hu with rfl | rfl | rfl <;> rfl
      case c3 => rw [matP_length]; unfold maxLen; omega
      case c4 => rw [matP_length]; omega
      case c5 => simp; omega
      · intro v3 w3 hown3 hgrow _
        obtain ⟨hxc, hv, hbw2, hbel, hp0, hu0, _⟩ := HM.out
        have hown4 : OwnL w3 W1.heap.size v3 (matP T 3) := ownL_more (ds := [(rotC T (unitC 2)).x, (rotC T (unitC 2)).y, (rotC T (unitC 2)).z]) rfl hown3 (OwnL.len HX.out.2.2.2.2) hxc (three_cls hv)
        have hbw3 : Below W1.heap.size W1 w3 := ((hbw2.alloc hS2 _).alloc (by simp; omega) _).grown hgrow (by simp; omega) (fun k hk => (HX.out.2.2.2.2.lt k hk).1)
        have HK := Lib.hid (And.intro hown4 hbw3)
        clear hown4 hbw3 hown3 hgrow hxc hv hbw2 HM
        go_wp2_with fail
        go_roundw
        case rel => exact ⟨3, by omega, by go_num, HK.out.1, HK.out.2⟩
        case measure => simp [intOf]
    · clear hp0 hu0
      obtain ⟨g, cap, rfl, hbg, hrow⟩ := hown.row (by rw [matP_length]; omega)
      have HN := Lib.hid (And.intro hbg (And.intro hrow (And.intro hbw (And.intro hbel hsz))))
      clear hbg hrow hbw hbel hsz
      go_wp2_with fail
      go_ret
      obtain ⟨hbg, hrow, hbw, hbel, hsz⟩ := HN.out
      exact ⟨g, cap, rfl, by omega, hrow, hbel.trans (hbw.mono hbel.size)⟩

theorem HasF4.belowB {B : Nat} {W W' : World} {b p x y z : Nat} (h : HasF4 W b p x y z) (hb : Below B W W') (hB : b < B) : HasF4 W' b p x y z :=
  ⟨⟨(hb.cell (p := ⟨b, 0, none⟩) hB).trans h.1.1, (hb.cell (p := ⟨b, 1, none⟩) hB).trans h.1.2.1, (hb.cell (p := ⟨b, 2, none⟩) hB).trans h.1.2.2.1, (hb.cell (p := ⟨b, 3, none⟩) hB).trans h.1.2.2.2⟩, fun o => (hb.frozen (p := ⟨b, o, none⟩) hB).trans (h.2 o)⟩

theorem own_into {w w' : World} {base g0 : Nat} {e : TypeId} {size : Nat} {v : Value} {n : Nat} {xs : List Value} (h : w.ownsRow base e size v n xs) (k : Into g0 w w') (hne : v.ownBlock ≠ some g0) : w'.ownsRow base e size v n xs := by
  obtain ⟨h1, h2⟩ := h
  refine ⟨h1, ?_⟩
  rcases h2 with h2 | ⟨g, cap, cur, rfl, hbg, hg, hr⟩
  · exact Or.inl h2
  · exact Or.inr ⟨g, cap, cur, rfl, hbg, (k.block g (fun e => hne (by rw [← e]; rfl))).trans hg, hr⟩

theorem app1 {w3 w4 : World} {o : Obj} {v v1 : Value} {b x y z : Nat} (h5 : HasF3 w3 b x y z) (hne : v.ownBlock ≠ some b) (hgrow : (w3.alloc o).grownBy w4 v.ownBlock)
    (hat : v1.ownBlock = v.ownBlock ∨ v1.ownBlock = some (w3.heap.size + 1)) : HasF3 w4 b x y z ∧ v1.ownBlock ≠ some b ∧ w3.heap.size < w4.heap.size := by
  have hlt := h5.lt
  have h6 := h5.alloc o
  have hlt2 := h6.lt
  have hs := hgrow.size
  have he : (w3.alloc o).heap.size = w3.heap.size + 1 := by simp
  have hb2 : (w4.heap[b]? = (w3.alloc o).heap[b]?) := hgrow.block b hlt2 (fun e => hne e.symm)
  refine ⟨⟨⟨?_, ?_, ?_⟩, fun q => ?_⟩, ?_, by omega⟩
  · exact (World.cell?_of_block (a := ⟨b, 0, none⟩) hb2).trans h6.1.1
  · exact (World.cell?_of_block (a := ⟨b, 1, none⟩) hb2).trans h6.1.2.1
  · exact (World.cell?_of_block (a := ⟨b, 2, none⟩) hb2).trans h6.1.2.2
  · exact (World.frozen?_of_block (a := ⟨b, q, none⟩) hb2).trans (h6.2 q)
  · rcases hat with e | e
    · rw [e]; exact hne
    · rw [e]
      intro c
      have := Option.some.inj c
      omega

theorem ownL_empty (w : World) (o : Obj) : OwnL ((w.alloc o).alloc (.cells #[] 22)) (w.heap.size + 1) (.slice (some ⟨w.heap.size + 1, 0, none⟩) 0 0) [] := by
  have e : (w.alloc o).heap.size = w.heap.size + 1 := by simp
  have h := World.ownsRow_lit (e := 22) (size := 1) (base := w.heap.size + 1) (w.alloc o) #[] 0 (by rw [e]; exact Nat.le_refl _) (Nat.zero_le _) rfl
  rw [e] at h
  exact ⟨[], h, fun j hj => absurd hj (Nat.not_lt_zero _)⟩

theorem three_len {w : World} {base : Nat} {v : Value} {n : Nat} {xs : List Value} {a b c : Value} (h : w.ownsRow base 22 1 v (n + 3) (xs ++ [a, b, c])) : xs.length = n := by
  have := h.1
  simp at this
  omega

set_option maxHeartbeats 16000000 in
set_option maxRecDepth 20000 in
theorem c_spec_MatrixOf {p x y z : Nat} {T : V4} (h : Fv4 p x y z T) (w : World) : Calls Try.prog 16 #[turn p x y z] w (RetL (matP T 3) w) := by
  obtain ⟨i0, hi, hz0, hz1, hz2⟩ := info_parts info22
  have HI := Lib.hid (And.intro hi (And.intro hz0 (And.intro hz1 hz2)))
  clear hi hz0 hz1 hz2
  go_enter Try.func16, Try.ntmps16
  go_wp2_with fail
  refine wp_name (fun wr => HasF4 wr w.heap.size p x y z ∧ OwnL wr (w.heap.size + 1) (.slice (some ⟨w.heap.size + 1, 0, none⟩) 0 0) [] ∧ w.heap.size + 2 ≤ wr.heap.size ∧ Below w.heap.size w wr) ⟨⟨⟨by go_simp, by go_simp, by go_simp, by go_simp⟩, fun o => by go_simp⟩, ownL_empty _ _, by simp, by (repeat (first | exact Below.refl _ _ | (refine below_drewN ?_ _) | (refine Below.drew ?_) | (refine Below.setCell ?_ (by first | omega | (simp; try omega)) _) | (refine Below.alloc ?_ (by first | omega | (simp; try omega)) _) | (refine Below.trans ?_ (Below.mono (by assumption) (by first | omega | (simp; try omega))))))⟩ ?_
  rintro W1 ⟨hp0, hown0, hsz, hbel⟩
  go_loopw [3, 4] (fun v i wr => ∃ k : Nat, k ≤ 3 ∧ i = .int .i64 k ∧ OwnL wr (w.heap.size + 1) v (matP T k) ∧ Below (w.heap.size + 1) W1 wr) (fun _ i _ => 3 - (intOf i).toNat)
  case atStart => exact ⟨0, Nat.zero_le _, rfl, hown0, Below.refl _ _⟩
  case round =>
    clear hown0
    obtain ⟨k, hk, rfl, hown, hbw⟩ := hrel
    have hcase : k = 0 ∨ k = 1 ∨ k = 2 ∨ k = 3 := by omega
    rcases hcase with rfl | rfl | rfl | rfl
    · have hp := hp0.belowB hbw (by omega)
      have hLr := hp.lt
      obtain ⟨⟨c0, c1, c2, c3⟩, fz0⟩ := hp
      have hSb := hbw.size
      have HN := Lib.hid (And.intro hown (And.intro hbw (And.intro hbel hp0)))
      clear hown hbw hbel hp0
      go_wp2_with fail
      refine (c_spec_l02Rotate (Ca := unitC 0) h ⟨(fvc rfl : Fv .f32 1065353216 (some 1065353216)), (fvc rfl : Fv .f32 0 (some 0)), (fvc rfl : Fv .f32 0 (some 0))⟩ _).mono ?_
      rintro e w2 ⟨⟨x2, y2, z2, rfl, hv⟩, hb⟩
      have h5 : HasF3 w2 wr.heap.size 1065353216 0 0 := HasF3.below ⟨⟨by simp, by simp, by simp⟩, fun o => by simp⟩ hb
      obtain ⟨hown, hbw, hbel, hp0⟩ := HN.out
      have hs2 : wr.heap.size + 1 ≤ w2.heap.size := by have := hb.size; simpa using this
      obtain ⟨xs0, hx0, hxc⟩ := hown
      have hne0 : u3.ownBlock ≠ some wr.heap.size := fun hg => by have := (hx0.lt _ hg).2; omega
      have hinto := into_put3 x2 y2 z2 h5
      have h53 := has_put3 x2 y2 z2 h5
      have hx3 := own_into (own_below (own_below hx0 ((Below.refl _ _).alloc (Nat.le_refl _) _)) hb) hinto hne0
      have hbw3 := below_into ((hbw.alloc (by omega) _).trans (hb.mono (by simp; omega))) hinto (by omega)
      obtain ⟨⟨d0, d1, d2⟩, df⟩ := id h5
      have HS := Lib.hid (And.intro hxc (And.intro hv (And.intro hbel (And.intro hp0 (And.intro hbw3 (And.intro hx3 (And.intro h53 hne0)))))))
      clear c0 c1 c2 c3 fz0 hb h5 hbw hp0 hx0 hxc hne0 hinto h53 hx3 hbw3 hv hbel HN
      go_upto_region 13 with fail
      refine wp_name (fun wz => wz.ownsRow (w.heap.size + 1) 22 1 u3 (matP T 0).length xs0 ∧ HasF3 wz wr.heap.size x2 y2 z2 ∧ Below (w.heap.size + 1) W1 wz ∧ wr.heap.size < wz.heap.size) ⟨HS.out.2.2.2.2.2.1, HS.out.2.2.2.2.2.2.1, HS.out.2.2.2.2.1, by simp; omega⟩ ?_
      clear d0 d1 d2 df hs2
      rintro W3 ⟨hx3, h53, hbw3, hl3⟩
      obtain ⟨hxc, hv, hbel, hp0, _, _, _, hne3⟩ := HS.out
      clear HS
      have hs3 := hbw3.size
      obtain ⟨⟨e30, e31, e32⟩, ef3⟩ := id h53
      have HX3 := Lib.hid (And.intro hx3 (And.intro h53 (And.intro hbw3 hne3)))
      clear hx3 h53 hbw3 hne3
      go_wp2_with (at_builtin; refine wpList_append_own_at _ rfl _ _ 37 rfl (w.heap.size + 1) 22 i0 (.float .f32 0) 1 4 Try.underlying37 HI.out.1 HI.out.2.1 HI.out.2.2.1 HI.out.2.2.2 rfl (by decide) _ _ (xs0) rfl (HX3.out.1.alloc _) ⟨W3.heap.size, 0, none⟩ 1 1 [.float .f32 x2] rfl rfl (cell_one_new _ _ _) ?a001 ?a002 ?a003 ?a004 ?_)
      case a001 => intro u hu; simp at hu; subst hu; rfl
      case a002 => simp only [matP_length]; unfold maxLen; omega
      case a003 => simp only [matP_length]; omega
      case a004 => simp; omega
      intro v4 W4 hx4 hgrow _ hat
      obtain ⟨hx3, h53, hbw3, hne3⟩ := HX3.out
      obtain ⟨h54, hne4, hsz4⟩ := app1 h53 hne3 hgrow hat
      have hbw4 := (hbw3.alloc (by omega) _).grown hgrow (by simp; omega) (fun g hg => (hx3.lt g hg).1)
      have hs4 := hbw4.size
      have hl4 : wr.heap.size < W4.heap.size := by omega
      clear e30 e31 e32 ef3 hx3 h53 hbw3 hne3 hgrow hat HX3
      obtain ⟨⟨e40, e41, e42⟩, ef4⟩ := id h54
      have HX4 := Lib.hid (And.intro hx4 (And.intro h54 (And.intro hbw4 hne4)))
      clear hx4 h54 hbw4 hne4
      go_wp2_with (at_builtin; refine wpList_append_own_at _ rfl _ _ 37 rfl (w.heap.size + 1) 22 i0 (.float .f32 0) 1 4 Try.underlying37 HI.out.1 HI.out.2.1 HI.out.2.2.1 HI.out.2.2.2 rfl (by decide) _ _ (xs0 ++ [Value.float .f32 x2]) rfl (HX4.out.1.alloc _) ⟨W4.heap.size, 0, none⟩ 1 1 [.float .f32 y2] rfl rfl (cell_one_new _ _ _) ?a011 ?a012 ?a013 ?a014 ?_)
      case a011 => intro u hu; simp at hu; subst hu; rfl
      case a012 => simp only [matP_length]; unfold maxLen; omega
      case a013 => simp only [matP_length]; omega
      case a014 => simp; omega
      intro v5 W5 hx5 hgrow _ hat
      obtain ⟨hx4, h54, hbw4, hne4⟩ := HX4.out
      obtain ⟨h55, hne5, hsz5⟩ := app1 h54 hne4 hgrow hat
      have hbw5 := (hbw4.alloc (by omega) _).grown hgrow (by simp; omega) (fun g hg => (hx4.lt g hg).1)
      have hs5 := hbw5.size
      have hl5 : wr.heap.size < W5.heap.size := by omega
      clear e40 e41 e42 ef4 hx4 h54 hbw4 hne4 hgrow hat HX4
      obtain ⟨⟨e50, e51, e52⟩, ef5⟩ := id h55
      have HX5 := Lib.hid (And.intro hx5 (And.intro h55 (And.intro hbw5 hne5)))
      clear hx5 h55 hbw5 hne5
      go_wp2_with (at_builtin; refine wpList_append_own_at _ rfl _ _ 37 rfl (w.heap.size + 1) 22 i0 (.float .f32 0) 1 4 Try.underlying37 HI.out.1 HI.out.2.1 HI.out.2.2.1 HI.out.2.2.2 rfl (by decide) _ _ (xs0 ++ [Value.float .f32 x2, Value.float .f32 y2]) rfl (HX5.out.1.alloc _) ⟨W5.heap.size, 0, none⟩ 1 1 [.float .f32 z2] rfl rfl (cell_one_new _ _ _) ?a021 ?a022 ?a023 ?a024 ?_)
      case a021 => intro u hu; simp at hu; subst hu; rfl
      case a022 => simp only [matP_length]; unfold maxLen; omega
      case a023 => simp only [matP_length]; omega
      case a024 => simp; omega
      intro v6 W6 hx6 hgrow _ hat
      obtain ⟨hx5, h55, hbw5, hne5⟩ := HX5.out
      obtain ⟨h56, hne6, hsz6⟩ := app1 h55 hne5 hgrow hat
      have hbw6 := (hbw5.alloc (by omega) _).grown hgrow (by simp; omega) (fun g hg => (hx5.lt g hg).1)
      have hs6 := hbw6.size
      have hl6 : wr.heap.size < W6.heap.size := by omega
      clear e50 e51 e52 ef5 hx5 h55 hbw5 hne5 hgrow hat HX5
      have hx7 : W6.ownsRow (w.heap.size + 1) 22 1 v6 ((matP T 0).length + 3) (xs0 ++ [Value.float .f32 x2, .float .f32 y2, .float .f32 z2]) := by simpa [List.append_assoc, Nat.add_assoc] using hx6
      have hown6 : OwnL W6 (w.heap.size + 1) v6 (matP T 1) := ownL_more (ds := [(rotC T (unitC 0)).x, (rotC T (unitC 0)).y, (rotC T (unitC 0)).z]) rfl hx7 (three_len hx7) hxc (three_cls hv)
      have HK := Lib.hid (And.intro hown6 (And.intro hbw6 (And.intro hbel hp0)))
      clear hown6 hbw6 hx6 hx7 h56 hne6 hxc hv hbel hp0
      go_wp2_with fail
      go_roundw
      case rel => exact ⟨1, by omega, by go_num, HK.out.1, HK.out.2.1⟩
      case measure => simp [intOf]
    · have hp := hp0.belowB hbw (by omega)
      have hLr := hp.lt
      obtain ⟨⟨c0, c1, c2, c3⟩, fz0⟩ := hp
      have hSb := hbw.size
      have HN := Lib.hid (And.intro hown (And.intro hbw (And.intro hbel hp0)))
      clear hown hbw hbel hp0
      go_wp2_with fail
      refine (c_spec_l02Rotate (Ca := unitC 1) h ⟨(fvc rfl : Fv .f32 0 (some 0)), (fvc rfl : Fv .f32 1065353216 (some 1065353216)), (fvc rfl : Fv .f32 0 (some 0))⟩ _).mono ?_
      rintro e w2 ⟨⟨x2, y2, z2, rfl, hv⟩, hb⟩
      have h5 : HasF3 w2 wr.heap.size 0 1065353216 0 := HasF3.below ⟨⟨by simp, by simp, by simp⟩, fun o => by simp⟩ hb
      obtain ⟨hown, hbw, hbel, hp0⟩ := HN.out
      have hs2 : wr.heap.size + 1 ≤ w2.heap.size := by have := hb.size; simpa using this
      obtain ⟨xs0, hx0, hxc⟩ := hown
      have hne0 : u3.ownBlock ≠ some wr.heap.size := fun hg => by have := (hx0.lt _ hg).2; omega
      have hinto := into_put3 x2 y2 z2 h5
      have h53 := has_put3 x2 y2 z2 h5
      have hx3 := own_into (own_below (own_below hx0 ((Below.refl _ _).alloc (Nat.le_refl _) _)) hb) hinto hne0
      have hbw3 := below_into ((hbw.alloc (by omega) _).trans (hb.mono (by simp; omega))) hinto (by omega)
      obtain ⟨⟨d0, d1, d2⟩, df⟩ := id h5
      have HS := Lib.hid (And.intro hxc (And.intro hv (And.intro hbel (And.intro hp0 (And.intro hbw3 (And.intro hx3 (And.intro h53 hne0)))))))
      clear c0 c1 c2 c3 fz0 hb h5 hbw hp0 hx0 hxc hne0 hinto h53 hx3 hbw3 hv hbel HN
      go_upto_region 13 with fail
      refine wp_name (fun wz => wz.ownsRow (w.heap.size + 1) 22 1 u3 (matP T 1).length xs0 ∧ HasF3 wz wr.heap.size x2 y2 z2 ∧ Below (w.heap.size + 1) W1 wz ∧ wr.heap.size < wz.heap.size) ⟨HS.out.2.2.2.2.2.1, HS.out.2.2.2.2.2.2.1, HS.out.2.2.2.2.1, by simp; omega⟩ ?_
      clear d0 d1 d2 df hs2
      rintro W3 ⟨hx3, h53, hbw3, hl3⟩
      obtain ⟨hxc, hv, hbel, hp0, _, _, _, hne3⟩ := HS.out
      clear HS
      have hs3 := hbw3.size
      obtain ⟨⟨e30, e31, e32⟩, ef3⟩ := id h53
      have HX3 := Lib.hid (And.intro hx3 (And.intro h53 (And.intro hbw3 hne3)))
      clear hx3 h53 hbw3 hne3
      go_wp2_with (at_builtin; refine wpList_append_own_at _ rfl _ _ 37 rfl (w.heap.size + 1) 22 i0 (.float .f32 0) 1 4 Try.underlying37 HI.out.1 HI.out.2.1 HI.out.2.2.1 HI.out.2.2.2 rfl (by decide) _ _ (xs0) rfl (HX3.out.1.alloc _) ⟨W3.heap.size, 0, none⟩ 1 1 [.float .f32 x2] rfl rfl (cell_one_new _ _ _) ?a101 ?a102 ?a103 ?a104 ?_)
      case a101 => intro u hu; simp at hu; subst hu; rfl
      case a102 => simp only [matP_length]; unfold maxLen; omega
      case a103 => simp only [matP_length]; omega
      case a104 => simp; omega
      intro v4 W4 hx4 hgrow _ hat
      obtain ⟨hx3, h53, hbw3, hne3⟩ := HX3.out
      obtain ⟨h54, hne4, hsz4⟩ := app1 h53 hne3 hgrow hat
      have hbw4 := (hbw3.alloc (by omega) _).grown hgrow (by simp; omega) (fun g hg => (hx3.lt g hg).1)
      have hs4 := hbw4.size
      have hl4 : wr.heap.size < W4.heap.size := by omega
      clear e30 e31 e32 ef3 hx3 h53 hbw3 hne3 hgrow hat HX3
      obtain ⟨⟨e40, e41, e42⟩, ef4⟩ := id h54
      have HX4 := Lib.hid (And.intro hx4 (And.intro h54 (And.intro hbw4 hne4)))
      clear hx4 h54 hbw4 hne4
      go_wp2_with (at_builtin; refine wpList_append_own_at _ rfl _ _ 37 rfl (w.heap.size + 1) 22 i0 (.float .f32 0) 1 4 Try.underlying37 HI.out.1 HI.out.2.1 HI.out.2.2.1 HI.out.2.2.2 rfl (by decide) _ _ (xs0 ++ [Value.float .f32 x2]) rfl (HX4.out.1.alloc _) ⟨W4.heap.size, 0, none⟩ 1 1 [.float .f32 y2] rfl rfl (cell_one_new _ _ _) ?a111 ?a112 ?a113 ?a114 ?_)
      case a111 => intro u hu; simp at hu; subst hu; rfl
      case a112 => simp only [matP_length]; unfold maxLen; omega
      case a113 => simp only [matP_length]; omega
      case a114 => simp; omega
      intro v5 W5 hx5 hgrow _ hat
      obtain ⟨hx4, h54, hbw4, hne4⟩ := HX4.out
      obtain ⟨h55, hne5, hsz5⟩ := app1 h54 hne4 hgrow hat
      have hbw5 := (hbw4.alloc (by omega) _).grown hgrow (by simp; omega) (fun g hg => (hx4.lt g hg).1)
      have hs5 := hbw5.size
      have hl5 : wr.heap.size < W5.heap.size := by omega
      clear e40 e41 e42 ef4 hx4 h54 hbw4 hne4 hgrow hat HX4
      obtain ⟨⟨e50, e51, e52⟩, ef5⟩ := id h55
      have HX5 := Lib.hid (And.intro hx5 (And.intro h55 (And.intro hbw5 hne5)))
      clear hx5 h55 hbw5 hne5
      go_wp2_with (at_builtin; refine wpList_append_own_at _ rfl _ _ 37 rfl (w.heap.size + 1) 22 i0 (.float .f32 0) 1 4 Try.underlying37 HI.out.1 HI.out.2.1 HI.out.2.2.1 HI.out.2.2.2 rfl (by decide) _ _ (xs0 ++ [Value.float .f32 x2, Value.float .f32 y2]) rfl (HX5.out.1.alloc _) ⟨W5.heap.size, 0, none⟩ 1 1 [.float .f32 z2] rfl rfl (cell_one_new _ _ _) ?a121 ?a122 ?a123 ?a124 ?_)
      case a121 => intro u hu; simp at hu; subst hu; rfl
      case a122 => simp only [matP_length]; unfold maxLen; omega
      case a123 => simp only [matP_length]; omega
      case a124 => simp; omega
      intro v6 W6 hx6 hgrow _ hat
      obtain ⟨hx5, h55, hbw5, hne5⟩ := HX5.out
      obtain ⟨h56, hne6, hsz6⟩ := app1 h55 hne5 hgrow hat
      have hbw6 := (hbw5.alloc (by omega) _).grown hgrow (by simp; omega) (fun g hg => (hx5.lt g hg).1)
      have hs6 := hbw6.size
      have hl6 : wr.heap.size < W6.heap.size := by omega
      clear e50 e51 e52 ef5 hx5 h55 hbw5 hne5 hgrow hat HX5
      have hx7 : W6.ownsRow (w.heap.size + 1) 22 1 v6 ((matP T 1).length + 3) (xs0 ++ [Value.float .f32 x2, .float .f32 y2, .float .f32 z2]) := by simpa [List.append_assoc, Nat.add_assoc] using hx6
      have hown6 : OwnL W6 (w.heap.size + 1) v6 (matP T 2) := ownL_more (ds := [(rotC T (unitC 1)).x, (rotC T (unitC 1)).y, (rotC T (unitC 1)).z]) rfl hx7 (three_len hx7) hxc (three_cls hv)
      have HK := Lib.hid (And.intro hown6 (And.intro hbw6 (And.intro hbel hp0)))
      clear hown6 hbw6 hx6 hx7 h56 hne6 hxc hv hbel hp0
      go_wp2_with fail
      go_roundw
      case rel => exact ⟨2, by omega, by go_num, HK.out.1, HK.out.2.1⟩
      case measure => simp [intOf]
    · have hp := hp0.belowB hbw (by omega)
      have hLr := hp.lt
      obtain ⟨⟨c0, c1, c2, c3⟩, fz0⟩ := hp
      have hSb := hbw.size
      have HN := Lib.hid (And.intro hown (And.intro hbw (And.intro hbel hp0)))
      clear hown hbw hbel hp0
      go_wp2_with fail
      refine (c_spec_l02Rotate (Ca := unitC 2) h ⟨(fvc rfl : Fv .f32 0 (some 0)), (fvc rfl : Fv .f32 0 (some 0)), (fvc rfl : Fv .f32 1065353216 (some 1065353216))⟩ _).mono ?_
      rintro e w2 ⟨⟨x2, y2, z2, rfl, hv⟩, hb⟩
      have h5 : HasF3 w2 wr.heap.size 0 0 1065353216 := HasF3.below ⟨⟨by simp, by simp, by simp⟩, fun o => by simp⟩ hb
      obtain ⟨hown, hbw, hbel, hp0⟩ := HN.out
      have hs2 : wr.heap.size + 1 ≤ w2.heap.size := by have := hb.size; simpa using this
      obtain ⟨xs0, hx0, hxc⟩ := hown
      have hne0 : u3.ownBlock ≠ some wr.heap.size := fun hg => by have := (hx0.lt _ hg).2; omega
      have hinto := into_put3 x2 y2 z2 h5
      have h53 := has_put3 x2 y2 z2 h5
      have hx3 := own_into (own_below (own_below hx0 ((Below.refl _ _).alloc (Nat.le_refl _) _)) hb) hinto hne0
      have hbw3 := below_into ((hbw.alloc (by omega) _).trans (hb.mono (by simp; omega))) hinto (by omega)
      obtain ⟨⟨d0, d1, d2⟩, df⟩ := id h5
      have HS := Lib.hid (And.intro hxc (And.intro hv (And.intro hbel (And.intro hp0 (And.intro hbw3 (And.intro hx3 (And.intro h53 hne0)))))))
      clear c0 c1 c2 c3 fz0 hb h5 hbw hp0 hx0 hxc hne0 hinto h53 hx3 hbw3 hv hbel HN
      go_upto_region 13 with fail
      refine wp_name (fun wz => wz.ownsRow (w.heap.size + 1) 22 1 u3 (matP T 2).length xs0 ∧ HasF3 wz wr.heap.size x2 y2 z2 ∧ Below (w.heap.size + 1) W1 wz ∧ wr.heap.size < wz.heap.size) ⟨HS.out.2.2.2.2.2.1, HS.out.2.2.2.2.2.2.1, HS.out.2.2.2.2.1, by simp; omega⟩ ?_
      clear d0 d1 d2 df hs2
      rintro W3 ⟨hx3, h53, hbw3, hl3⟩
      obtain ⟨hxc, hv, hbel, hp0, _, _, _, hne3⟩ := HS.out
      clear HS
      have hs3 := hbw3.size
      obtain ⟨⟨e30, e31, e32⟩, ef3⟩ := id h53
      have HX3 := Lib.hid (And.intro hx3 (And.intro h53 (And.intro hbw3 hne3)))
      clear hx3 h53 hbw3 hne3
      go_wp2_with (at_builtin; refine wpList_append_own_at _ rfl _ _ 37 rfl (w.heap.size + 1) 22 i0 (.float .f32 0) 1 4 Try.underlying37 HI.out.1 HI.out.2.1 HI.out.2.2.1 HI.out.2.2.2 rfl (by decide) _ _ (xs0) rfl (HX3.out.1.alloc _) ⟨W3.heap.size, 0, none⟩ 1 1 [.float .f32 x2] rfl rfl (cell_one_new _ _ _) ?a201 ?a202 ?a203 ?a204 ?_)
      case a201 => intro u hu; simp at hu; subst hu; rfl
      case a202 => simp only [matP_length]; unfold maxLen; omega
      case a203 => simp only [matP_length]; omega
      case a204 => simp; omega
      intro v4 W4 hx4 hgrow _ hat
      obtain ⟨hx3, h53, hbw3, hne3⟩ := HX3.out
      obtain ⟨h54, hne4, hsz4⟩ := app1 h53 hne3 hgrow hat
      have hbw4 := (hbw3.alloc (by omega) _).grown hgrow (by simp; omega) (fun g hg => (hx3.lt g hg).1)
      have hs4 := hbw4.size
      have hl4 : wr.heap.size < W4.heap.size := by omega
      clear e30 e31 e32 ef3 hx3 h53 hbw3 hne3 hgrow hat HX3
      obtain ⟨⟨e40, e41, e42⟩, ef4⟩ := id h54
      have HX4 := Lib.hid (And.intro hx4 (And.intro h54 (And.intro hbw4 hne4)))
      clear hx4 h54 hbw4 hne4
      go_wp2_with (at_builtin; refine wpList_append_own_at _ rfl _ _ 37 rfl (w.heap.size + 1) 22 i0 (.float .f32 0) 1 4 Try.underlying37 HI.out.1 HI.out.2.1 HI.out.2.2.1 HI.out.2.2.2 rfl (by decide) _ _ (xs0 ++ [Value.float .f32 x2]) rfl (HX4.out.1.alloc _) ⟨W4.heap.size, 0, none⟩ 1 1 [.float .f32 y2] rfl rfl (cell_one_new _ _ _) ?a211 ?a212 ?a213 ?a214 ?_)
      case a211 => intro u hu; simp at hu; subst hu; rfl
      case a212 => simp only [matP_length]; unfold maxLen; omega
      case a213 => simp only [matP_length]; omega
      case a214 => simp; omega
      intro v5 W5 hx5 hgrow _ hat
      obtain ⟨hx4, h54, hbw4, hne4⟩ := HX4.out
      obtain ⟨h55, hne5, hsz5⟩ := app1 h54 hne4 hgrow hat
      have hbw5 := (hbw4.alloc (by omega) _).grown hgrow (by simp; omega) (fun g hg => (hx4.lt g hg).1)
      have hs5 := hbw5.size
      have hl5 : wr.heap.size < W5.heap.size := by omega
      clear e40 e41 e42 ef4 hx4 h54 hbw4 hne4 hgrow hat HX4
      obtain ⟨⟨e50, e51, e52⟩, ef5⟩ := id h55
      have HX5 := Lib.hid (And.intro hx5 (And.intro h55 (And.intro hbw5 hne5)))
      clear hx5 h55 hbw5 hne5
      go_wp2_with (at_builtin; refine wpList_append_own_at _ rfl _ _ 37 rfl (w.heap.size + 1) 22 i0 (.float .f32 0) 1 4 Try.underlying37 HI.out.1 HI.out.2.1 HI.out.2.2.1 HI.out.2.2.2 rfl (by decide) _ _ (xs0 ++ [Value.float .f32 x2, Value.float .f32 y2]) rfl (HX5.out.1.alloc _) ⟨W5.heap.size, 0, none⟩ 1 1 [.float .f32 z2] rfl rfl (cell_one_new _ _ _) ?a221 ?a222 ?a223 ?a224 ?_)
      case a221 => intro u hu; simp at hu; subst hu; rfl
      case a222 => simp only [matP_length]; unfold maxLen; omega
      case a223 => simp only [matP_length]; omega
      case a224 => simp; omega
      intro v6 W6 hx6 hgrow _ hat
      obtain ⟨hx5, h55, hbw5, hne5⟩ := HX5.out
      obtain ⟨h56, hne6, hsz6⟩ := app1 h55 hne5 hgrow hat
      have hbw6 := (hbw5.alloc (by omega) _).grown hgrow (by simp; omega) (fun g hg => (hx5.lt g hg).1)
      have hs6 := hbw6.size
      have hl6 : wr.heap.size < W6.heap.size := by omega
      clear e50 e51 e52 ef5 hx5 h55 hbw5 hne5 hgrow hat HX5
      have hx7 : W6.ownsRow (w.heap.size + 1) 22 1 v6 ((matP T 2).length + 3) (xs0 ++ [Value.float .f32 x2, .float .f32 y2, .float .f32 z2]) := by simpa [List.append_assoc, Nat.add_assoc] using hx6
      have hown6 : OwnL W6 (w.heap.size + 1) v6 (matP T 3) := ownL_more (ds := [(rotC T (unitC 2)).x, (rotC T (unitC 2)).y, (rotC T (unitC 2)).z]) rfl hx7 (three_len hx7) hxc (three_cls hv)
      have HK := Lib.hid (And.intro hown6 (And.intro hbw6 (And.intro hbel hp0)))
      clear hown6 hbw6 hx6 hx7 h56 hne6 hxc hv hbel hp0
      go_wp2_with fail
      go_roundw
      case rel => exact ⟨3, by omega, by go_num, HK.out.1, HK.out.2.1⟩
      case measure => simp [intOf]
    · clear hp0
      obtain ⟨g, cap, rfl, hbg, hrow⟩ := hown.row (by rw [matP_length]; omega)
      have HN := Lib.hid (And.intro hbg (And.intro hrow (And.intro hbw (And.intro hbel hsz))))
      clear hbg hrow hbw hbel hsz
      go_wp2_with fail
      go_ret
      obtain ⟨hbg, hrow, hbw, hbel, hsz⟩ := HN.out
      exact ⟨g, cap, rfl, by omega, hrow, hbel.trans (hbw.mono (by omega))⟩

/-! ### marks -/
theorem fv_int32 (n : Int) : Fv .f32 (FloatKind.f32.nearest n) (some (FloatKind.f32.nearest n)) := by
  refine ⟨?_, cls_write .f32 (.number (n < 0) n.natAbs 0) rfl⟩
  show Ieee.single.nearest _ _ _ < _
  rw [nearest_word]
  exact Ieee.single.word_lt _ (near_lt ..)

/-- The first k of n cells are marked. -/
structure MPart (wr : World) (g k n : Nat) : Prop where
  lt : g < wr.heap.size
  cell : ∀ j, j < n → ∃ z, wr.cell? ⟨g, j, none⟩ = some (.float .f32 z) ∧ (j < k → z = FloatKind.f32.nearest (1 + (j : Int)))
  frozen : ∀ o, wr.frozen? ⟨g, o, none⟩ = false

theorem MPart.below {w w' : World} {g k n : Nat} (h : MPart w g k n) (hb : Below w.heap.size w w') : MPart w' g k n :=
  ⟨Nat.lt_of_lt_of_le h.lt hb.size, fun j hj => by
    obtain ⟨z, h1, h2⟩ := h.cell j hj
    exact ⟨z, (hb.cell (p := ⟨g, j, none⟩) h.lt).trans h1, h2⟩, fun o => (hb.frozen (p := ⟨g, o, none⟩) h.lt).trans (h.frozen o)⟩

theorem MPart.step {wr : World} {g k n : Nat} (h : MPart wr g k n) (hk : k < n) {z : Nat} (hz : z = FloatKind.f32.nearest (1 + (k : Int))) : MPart (wr.setCell ⟨g, k, none⟩ (.float .f32 z)) g (k + 1) n := by
  refine ⟨by simpa using h.lt, fun j hj => ?_, fun o => by simpa using h.frozen o⟩
  by_cases e : j = k
  · subst e
    obtain ⟨z0, h1, _⟩ := h.cell j hj
    exact ⟨z, by go_simp, fun _ => hz⟩
  · obtain ⟨z0, h1, h2⟩ := h.cell j hj
    have hne : (⟨g, k, none⟩ : Addr) ≠ ⟨g, j, none⟩ := by intro c; cases c; exact e rfl
    exact ⟨z0, by rw [← h1]; go_simp, fun hlt => h2 (by omega)⟩

theorem Row.marks {wr : World} {g : Nat} {cs : List (Option Nat)} (h : Row wr g cs.length cs) : MPart wr g 0 cs.length :=
  ⟨h.lt, fun j hj => by
    obtain ⟨z, h1, _⟩ := h.cell j hj
    exact ⟨z, h1, fun c => absurd c (Nat.not_lt_zero _)⟩, h.frozen⟩

set_option maxHeartbeats 4000000 in
theorem c_mark {w : World} {g n cap : Nat} (h : MPart w g 0 n) (hn : n ≤ 1000) :
    Calls Try.prog 19 #[.slice (some ⟨g, 0, none⟩) n cap, .int .i64 1] w fun e w' => e = .returned (.int .i64 (1 + (n : Int))) ∧ MPart w' g n n ∧ Below g w w' := by
  go_enter Try.func19, Try.ntmps19
  go_wp2
  go_loopw [1, 5] (fun m i wr => ∃ k : Nat, k ≤ n ∧ i = .int .i64 k ∧ m = .int .i64 (1 + (k : Int)) ∧ MPart wr g k n ∧ Below g w wr) (fun _ i _ => n - (intOf i).toNat)
  case atStart => exact ⟨0, Nat.zero_le _, rfl, rfl, h, Below.refl _ _⟩
  case round =>
    obtain ⟨k, hk, rfl, rfl, hm, hbw⟩ := hrel
    by_cases hlt : k < n
    · obtain ⟨z0, hd, _⟩ := hm.cell k hlt
      have hf := hm.frozen k
      have HN := Lib.hid hm
      clear hm h
      go_wp2
      have hm := HN.out
      go_roundw
      case rel => exact ⟨k + 1, by omega, by go_num, by go_num, hm.step hlt rfl, hbw.setCell (Nat.le_refl _) _⟩
      case measure => simp [intOf]; omega
    · obtain rfl : k = n := by omega
      have HN := Lib.hid hm
      clear hm h
      go_wp2
      go_ret
      exact ⟨rfl, HN.out, hbw⟩

set_option maxHeartbeats 4000000 in
theorem c_held {w : World} {g n cap : Nat} (h : MPart w g n n) (hn : n ≤ 1000) :
    Calls Try.prog 20 #[.slice (some ⟨g, 0, none⟩) n cap, .int .i64 1] w fun e w' => e = .returned (.int .i64 (1 + (n : Int))) ∧ Below w.heap.size w w' := by
  go_enter Try.func20, Try.ntmps20
  go_wp2
  go_loopw [1, 5] (fun m i wr => ∃ k : Nat, k ≤ n ∧ i = .int .i64 k ∧ m = .int .i64 (1 + (k : Int)) ∧ Below w.heap.size w wr) (fun _ i _ => n - (intOf i).toNat)
  case atStart => exact ⟨0, Nat.zero_le _, rfl, rfl, Below.refl _ _⟩
  case round =>
    obtain ⟨k, hk, rfl, rfl, hbw⟩ := hrel
    by_cases hlt : k < n
    · obtain ⟨z0, hd, hz⟩ := (h.below hbw).cell k hlt
      obtain rfl := hz hlt
      have he : (FloatKind.f32.format.order (FloatKind.f32.nearest (1 + (k : Int))) (FloatKind.f32.nearest (1 + (k : Int))) != some .eq) = false := by
        rw [ord_some (fv_int32 (1 + (k : Int)))]; rfl
      have he2 : (FloatKind.f32.format.order (FloatKind.f32.nearest (1 + (k : Int))) (floatOfInt .f32 (1 + (k : Int))) != some .eq) = false := he
      have HN := Lib.hid h
      clear h
      go_wp2
      have h := HN.out
      go_roundw
      case rel => exact ⟨k + 1, by omega, by go_num, by go_num, hbw⟩
      case measure => simp [intOf]; omega
    · obtain rfl : k = n := by omega
      clear h
      go_wp2
      go_ret
      exact ⟨rfl, hbw⟩

end Go.Proofs.Ytpfijbgkhekjfaa
