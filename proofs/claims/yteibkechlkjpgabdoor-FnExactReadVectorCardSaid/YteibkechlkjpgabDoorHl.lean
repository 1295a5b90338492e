/-
  ReadNumbers: the reference's side: the text cut at the commas, each piece read. No condition.
-/
import Derived.Test.YteibkechlkjpgabDoorHk
import Derived.WalkSpells
set_option linter.unusedVariables false
namespace Go.Proofs.YteibkechlkjpgabDoor
open Go.RowKit Go.Proofs.YteibkechlkjpgabDoor.Fl

theorem own_below {w w' : World} {base : Nat} {e : TypeId} {size : Nat} {v : Value} {n : Nat} {xs : List Value} (h : w.ownsRow base e size v n xs) (hb : Below w.heap.size w w') : w'.ownsRow base e size v n xs := by
  obtain ⟨h1, h2⟩ := h
  refine ⟨h1, ?_⟩
  rcases h2 with h2 | ⟨g, cap, cur, hv, hbg, hg, hr⟩
  · exact Or.inl h2
  · refine Or.inr ⟨g, cap, cur, hv, hbg, ?_, hr⟩
    have hlt : g < w.heap.size := by
      rcases Nat.lt_or_ge g w.heap.size with hlt | hge
      · exact hlt
      · rw [Array.getElem?_eq_none hge] at hg; cases hg
    exact (hb.block g hlt).trans hg
theorem own_rd {α : Type} {mk : α → Value} {w : World} {base : Nat} {e : TypeId} {v : Value} {xs : List α} (h : w.ownsRow base e 1 v xs.length (xs.map mk)) : ∃ A cap, v = .slice A xs.length cap ∧ RdG mk w A xs ∧ ∀ ad, A = some ad → base ≤ ad.block := by
  have hk := h
  rcases h.2 with ⟨rfl, h0⟩ | ⟨g, cap, cur, rfl, hbg, hg, _⟩
  · exact ⟨none, 0, by rw [h0], fun i hi => by omega, fun ad h => by cases h⟩
  · refine ⟨some ⟨g, 0, none⟩, cap, rfl, fun i hi => ⟨⟨g, 0, none⟩, xs[i], rfl, ?_, ?_, by simp [hi]⟩, fun ad h => by cases h; exact hbg⟩
    · rcases Nat.lt_or_ge g w.heap.size with hlt | hge
      · exact hlt
      · rw [Array.getElem?_eq_none hge] at hg; cases hg
    · exact hk.cells rfl i _ (by simp [hi])
theorem one_cell (x : ByteArray) : ∀ u ∈ [Value.string x], u.oneCell' = true := by
  intro u hu; rw [List.mem_singleton.1 hu]; rfl
theorem own_push {α : Type} {mk : α → Value} {w : World} {base : Nat} {e : TypeId} {v : Value} {xs : List α} {x : α} (h : w.ownsRow base e 1 v (xs.length + 1) (xs.map mk ++ [mk x])) : w.ownsRow base e 1 v (xs ++ [x]).length ((xs ++ [x]).map mk) := by
  rw [List.length_append, List.map_append]; exact h

/-- What v owns lies apart from A's block. -/
def Apart (v : Value) (A : Option Addr) : Prop := ∀ ad, A = some ad → v.ownBlock ≠ some ad.block
theorem RdG.grown {α : Type} {mk : α → Value} {w w' : World} {A : Option Addr} {xs : List α} {v : Value} (h : RdG mk w A xs) (hg : w.grownBy w' v.ownBlock) (ha : Apart v A) : RdG mk w' A xs := by
  intro i hi
  obtain ⟨ad, x, rfl, h2, h3, h4⟩ := h i hi
  have hb : w'.heap[(ad.add i).block]? = w.heap[(ad.add i).block]? := hg.block _ (by rw [addr_block]; exact h2) (fun e => ha ad rfl (by rw [addr_block] at e; exact e.symm))
  exact ⟨ad, x, rfl, Nat.lt_of_lt_of_le h2 hg.size, (World.cell?_of_block hb).trans h3, h4⟩
theorem apart_next {α : Type} {mk : α → Value} {w : World} {H : Nat} {A : Option Addr} {xs : List α} {v v' : Value} (h : RdG mk w A xs) (hx : 0 < xs.length) (ha : Apart v A) (hat : v'.ownBlock = v.ownBlock ∨ v'.ownBlock = some H) (hs : w.heap.size ≤ H) : Apart v' A := by
  intro ad hA
  obtain ⟨ad', x, h1, h2, _⟩ := h 0 hx
  rw [hA] at h1
  obtain rfl := Option.some.inj h1
  rcases hat with e | e
  · rw [e]; exact ha ad hA
  · rw [e]; intro c; have := Option.some.inj c; omega
theorem own_push' {α : Type} {mk : α → Value} {w : World} {base : Nat} {e : TypeId} {v : Value} {xs : List α} {x : α} {n : Nat} (hn : xs.length = n) (h : w.ownsRow base e 1 v (n + 1) (xs.map mk ++ [mk x])) : w.ownsRow base e 1 v (xs ++ [x]).length ((xs ++ [x]).map mk) := by
  subst hn; exact own_push h
theorem cut_size : ∀ (l : List UInt8) (p : List UInt8), p ∈ cutAt l → p.length ≤ l.length
  | [], p, h => by simp [cutAt] at h; subst h; exact Nat.le_refl _
  | b :: r, p, h => by
    have ih := cut_size r
    unfold cutAt at h
    split at h
    · rcases List.mem_cons.1 h with rfl | h
      · simp
      · have := ih p h; rw [List.length_cons]; omega
    · split at h
      · simp at h; subst h; simp
      · rename_i q qs hq
        rcases List.mem_cons.1 h with rfl | h
        · have := ih q (by rw [hq]; simp); rw [List.length_cons, List.length_cons]; omega
        · have := ih p (by rw [hq]; simp [h]); rw [List.length_cons]; omega
theorem piece_size {s p : ByteArray} (h : p ∈ pieces s) : p.size ≤ s.size := by
  obtain ⟨l, hl, rfl⟩ := List.mem_map.1 h
  exact cut_size _ l hl
theorem pieces_pos (s : ByteArray) : 0 < (pieces s).length := by
  rw [pieces, List.length_map]; exact List.length_pos_iff.2 (cutAt_ne _)

set_option maxHeartbeats 4000000 in
theorem c_l01Cut {w : World} {s : ByteArray} (hs : s.size ≤ 1048576) :
    Calls Tryd.prog 18 #[.string s, .int .u8 44] w fun e w' => ∃ A cap, e = .returned (.slice A (pieces s).length cap) ∧ RdS w' A (pieces s) ∧ (∀ ad, A = some ad → w.heap.size ≤ ad.block) ∧ Below w.heap.size w w' := by
  obtain ⟨i0, hi, hz0, hz1, hz2⟩ := info_parts info9
  have HI := Lib.hid (And.intro hi (And.intro hz0 (And.intro hz1 hz2)))
  clear hi hz0 hz1 hz2
  have h00 := World.ownsRow_lit (e := 9) (size := 1) (base := w.heap.size) w #[] 0 (Nat.le_refl _) (Nat.zero_le _) rfl
  have H0 := Lib.hid h00
  clear h00
  go_enter Tryd.func18, Tryd.ntmps18
  go_wp2_with fail
  go_loopw [5, 6, 7] (fun v fr i wr => ∃ (done : List ByteArray) (f k : Nat), fr = .int .i64 f ∧ i = .int .i64 k ∧ k ≤ s.size + 1 ∧ done.length ≤ k ∧ wr.ownsRow w.heap.size 9 1 v done.length (done.map mkS) ∧ Hid (CutInv s.data.toList done f k) ∧ Below w.heap.size w wr) (fun _ _ i _ => s.size + 1 - (intOf i).toNat)
  case atStart => exact ⟨[], 0, 0, rfl, rfl, Nat.zero_le _, Nat.le_refl _, H0.out, cut_start _, (Below.refl _ _).alloc (Nat.le_refl _) _⟩
  case round =>
    obtain ⟨done, f, k, rfl, rfl, hk, hdl, hown, hcut, hbw⟩ := hrel
    have hsz := hbw.size
    by_cases hle : k ≤ s.size
    · have hf := cut_le hcut.out hle
      have HN := Lib.hid (And.intro hown hbw)
      by_cases heq : k = s.size
      · subst heq
        clear hown hbw
        go_wp2_with (at_builtin; refine wpList_append_own _ rfl _ _ 34 rfl w.heap.size 9 i0 (.string ⟨#[]⟩) 1 16 Tryd.underlying34 HI.out.1 HI.out.2.1 HI.out.2.2.1 HI.out.2.2.2 rfl (by decide) _ _ (done.map mkS) rfl (HN.out.1.alloc _) ⟨wr.heap.size, 0, none⟩ 1 1 [.string (s.extract f s.size)] rfl rfl (cell_one_new _ _ _) (one_cell _) ?b3 ?b4 ?b5 ?_)
        case b3 => unfold maxLen; omega
        case b4 => omega
        case b5 => first | omega | (simp; omega)
        intro v3 w3 hown hgrow _
        have hbw3 : Below w.heap.size w w3 := (HN.out.2.alloc hsz _).grown hgrow (by simp; omega) (own_block HN.out.1)
        have HK := Lib.hid (And.intro (own_push (mk := mkS) hown) hbw3)
        clear hown hgrow hbw3
        go_wp2_with fail
        go_roundw
        case rel => exact ⟨done ++ [s.extract f s.size], s.size + 1, s.size + 1, by go_num, by go_num, Nat.le_refl _, by rw [List.length_append]; simp; omega, HK.out.1, cut_end hcut.out, HK.out.2⟩
        case measure => simp [intOf]
      · have hlt : k < s.size := by omega
        have hby := byte_at hlt
        obtain ⟨b, hbk⟩ : ∃ b, s[k]'hlt = b := ⟨_, rfl⟩
        rw [hbk] at hby
        have HB := Lib.hid hby
        have hne : (((k : Nat) : Int) == ((s.size : Nat) : Int)) = false := beq_eq_false_iff_ne.2 (by omega)
        clear hown hbw hby
        by_cases h44 : b.toNat = 44
        · go_wp2_with (at_builtin; refine wpList_append_own _ rfl _ _ 34 rfl w.heap.size 9 i0 (.string ⟨#[]⟩) 1 16 Tryd.underlying34 HI.out.1 HI.out.2.1 HI.out.2.2.1 HI.out.2.2.2 rfl (by decide) _ _ (done.map mkS) rfl (HN.out.1.alloc _) ⟨wr.heap.size, 0, none⟩ 1 1 [.string (s.extract f k)] rfl rfl (cell_one_new _ _ _) (one_cell _) ?b3 ?b4 ?b5 ?_)
          case b3 => unfold maxLen; omega
          case b4 => omega
          case b5 => first | omega | (simp; omega)
          intro v3 w3 hown hgrow _
          have hbw3 : Below w.heap.size w w3 := (HN.out.2.alloc hsz _).grown hgrow (by simp; omega) (own_block HN.out.1)
          have HK := Lib.hid (And.intro (own_push (mk := mkS) hown) hbw3)
          clear hown hgrow hbw3
          go_wp2_with fail
          go_roundw
          case rel => exact ⟨done ++ [s.extract f k], k + 1, k + 1, by go_num, by go_num, by omega, by rw [List.length_append]; simp; omega, HK.out.1, cut_at hcut.out (by rw [HB.out]; exact congrArg some (UInt8.toNat_inj.1 h44)), HK.out.2⟩
          case measure => simp [intOf]; omega
        · go_wp2_with fail
          go_roundw
          case rel => exact ⟨done, f, k + 1, rfl, by go_num, by omega, by omega, HN.out.1, cut_go hcut.out HB.out (fun c => h44 (by rw [c]; rfl)), HN.out.2⟩
          case measure => simp [intOf]; omega
    · obtain rfl : done = pieces s := cut_done hcut.out hle
      obtain ⟨A, cap, rfl, hrd, hAb⟩ := own_rd hown
      have HN := Lib.hid hrd
      clear hown hrd
      go_wp2_with fail
      go_ret
      exact ⟨A, cap, rfl, HN.out, hAb, hbw⟩

end Go.Proofs.YteibkechlkjpgabDoor
