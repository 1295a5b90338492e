/-
  The library's public ParseUint at base 16, 32 bits; fromHex and the reference's part. The two errors and the table as the conditions say.
-/
import Derived.Test.YteibkechlkjpgabDoorHd
import Derived.Test.YteibkechlkjpgabDoorHe
import Derived.Lib.AtoiErrMem
import Derived.LaidLaws
set_option linter.unusedVariables false
namespace Go.Proofs.YteibkechlkjpgabDoor
open Go.RowKit Go.Proofs.YteibkechlkjpgabDoor.Fl

/-- The library's two errors. -/
structure Errs (w : World) : Prop where
  syn : ∃ tp p, w.var? Tryd.prog "strconv.ErrSyntax" = some #[.iface tp p]
  rng : ∃ tp p, w.var? Tryd.prog "strconv.ErrRange" = some #[.iface tp p]
theorem gSyn : Tryd.prog.globalNamed "strconv.ErrSyntax" = some 1 := by kernel_rfl
theorem gRng : Tryd.prog.globalNamed "strconv.ErrRange" = some 2 := by kernel_rfl
theorem Errs.on {B : Nat} {w w' : World} (h : Errs w) (hb : Below B w w') (hB : w.heap.size ≤ B) : Errs w' :=
  ⟨by obtain ⟨t, p, e⟩ := h.syn; exact ⟨t, p, Go.Joins.var_stays gSyn e hb hB⟩, by obtain ⟨t, p, e⟩ := h.rng; exact ⟨t, p, Go.Joins.var_stays gRng e hb hB⟩⟩
theorem Errs.synC {w : World} (h : Errs w) : ∃ ev, w.cell? ⟨1, 0, none⟩ = some ev ∧ (ev = .nilIface ∨ ∃ te pe, ev = .iface te pe) := by
  obtain ⟨t, p, e⟩ := h.syn
  exact ⟨.iface t p, by have h0 := World.var?_cell gSyn e 0; simpa using h0, Or.inr ⟨t, p, rfl⟩⟩
theorem Errs.rngC {w : World} (h : Errs w) : ∃ ev, w.cell? ⟨2, 0, none⟩ = some ev ∧ (ev = .nilIface ∨ ∃ te pe, ev = .iface te pe) := by
  obtain ⟨t, p, e⟩ := h.rng
  exact ⟨.iface t p, by have h0 := World.var?_cell gRng e 0; simpa using h0, Or.inr ⟨t, p, rfl⟩⟩

/-! ### the library's parse -/
set_option maxRecDepth 100000 in
theorem c_ParseUint_empty (w : World) : Calls Tryd.prog 27 #[.string ⟨#[]⟩, .int .i64 16, .int .i64 32] w fun e w' => e = .returned (.tuple #[.int .u64 0, .iface 59 (.int .i64 2)]) ∧ w' = w := by
  go_enter Tryd.func27, Tryd.ntmps27
  go_wp2
  go_ret2
  exact ⟨rfl, rfl⟩

theorem c_Parse_ok (t : ByteArray) (hne : t.size ≠ 0) (hmax : t.size ≤ 9223372036854775806) {n : Nat} (h : hexP 0 t.data.toList = .ok n) (w : World) :
    Calls Tryd.prog 22 #[.string t, .int .i64 16, .int .i64 32] w fun e w' => e = .returned (.tuple #[.int .u64 n, .nilIface]) ∧ Below w.heap.size w w' := by
  have c := c_ParseUint_in t hne hmax w
  rw [h] at c
  have c : Calls Tryd.prog 27 #[.string t, .int .i64 16, .int .i64 32] w fun e w' => e = .returned (.tuple #[.int .u64 n, .nilIface]) ∧ Below w.heap.size w w' := c.mono (by rintro e w' ⟨rfl, rfl⟩; exact ⟨rfl, Lib.bytesWorld_below _ _ _⟩)
  clear h
  go_enter Tryd.func22, Tryd.ntmps22
  go_wp2_with (go_at_call 27; refine c.mono ?_; rintro e w1 ⟨rfl, hb1⟩)
  go_ret2
  exact ⟨rfl, hb1⟩

/-- What is no number: an error comes back. -/
def RetErr (w : World) (e : Ending) (w' : World) : Prop := (∃ v tp p, e = .returned (.tuple #[.int .u64 v, .iface tp p])) ∧ Below w.heap.size w w'

theorem c_Parse_syn (t : ByteArray) (hlim : t.size ≤ 1048576) (w : World) (he : Errs w)
    (c : Calls Tryd.prog 27 #[.string t, .int .i64 16, .int .i64 32] w fun e w' => e = .returned (.tuple #[.int .u64 0, .iface 59 (.int .i64 2)]) ∧ Below w.heap.size w w') :
    Calls Tryd.prog 22 #[.string t, .int .i64 16, .int .i64 32] w (RetErr w) := by
  have HE := Lib.hid he
  clear he
  go_enter Tryd.func22, Tryd.ntmps22
  go_wp2_with (go_at_call 27; refine c.mono ?_; rintro e w1 ⟨rfl, hb1⟩)
  obtain ⟨ev, hv, hev⟩ := (HE.out.on hb1 (Nat.le_refl _)).synC
  go_wp2_with (go_at_call 28; refine (Tryd.strconv_toError_syntax ⟨#[80, 97, 114, 115, 101, 85, 105, 110, 116]⟩ t 16 32 ev w1 (by omega) hv hev).mono ?_; rintro e w2 ⟨N, rfl, -, -, hb2⟩)
  go_ret2
  exact ⟨⟨_, _, _, rfl⟩, hb1.trans (hb2.mono hb1.size)⟩

theorem c_Parse_rng (t : ByteArray) (hlim : t.size ≤ 1048576) (w : World) (he : Errs w)
    (c : Calls Tryd.prog 27 #[.string t, .int .i64 16, .int .i64 32] w fun e w' => e = .returned (.tuple #[.int .u64 4294967295, .iface 59 (.int .i64 1)]) ∧ Below w.heap.size w w') :
    Calls Tryd.prog 22 #[.string t, .int .i64 16, .int .i64 32] w (RetErr w) := by
  have HE := Lib.hid he
  clear he
  go_enter Tryd.func22, Tryd.ntmps22
  go_wp2_with (go_at_call 27; refine c.mono ?_; rintro e w1 ⟨rfl, hb1⟩)
  obtain ⟨ev, hv, hev⟩ := (HE.out.on hb1 (Nat.le_refl _)).rngC
  go_wp2_with (go_at_call 28; refine (Tryd.strconv_toError_range ⟨#[80, 97, 114, 115, 101, 85, 105, 110, 116]⟩ t 16 32 ev w1 (by omega) hv hev).mono ?_; rintro e w2 ⟨N, rfl, -, -, hb2⟩)
  go_ret2
  exact ⟨⟨_, _, _, rfl⟩, hb1.trans (hb2.mono hb1.size)⟩

theorem numEnd_casesN (x : Lib.NumEnd Nat) : (∃ n, x = .ok n) ∨ x = Lib.NumEnd.syntax ∨ x = Lib.NumEnd.range := by cases x <;> simp
theorem size_zero {t : ByteArray} (h : t.size = 0) : t = ⟨#[]⟩ := by
  obtain ⟨⟨l⟩⟩ := t
  have : l = [] := List.length_eq_zero_iff.1 h
  subst this; rfl

theorem c_Parse_bad (t : ByteArray) (hlim : t.size ≤ 1048576) (h : t.size ≠ 0 → ∀ n, hexP 0 t.data.toList ≠ .ok n) (w : World) (he : Errs w) :
    Calls Tryd.prog 22 #[.string t, .int .i64 16, .int .i64 32] w (RetErr w) := by
  by_cases h0 : t.size = 0
  · obtain rfl := size_zero h0
    exact c_Parse_syn _ hlim w he ((c_ParseUint_empty w).mono (by rintro e w' ⟨rfl, rfl⟩; exact ⟨rfl, Below.refl _ _⟩))
  · have c := c_ParseUint_in t h0 (by omega) w
    rcases numEnd_casesN (hexP 0 t.data.toList) with ⟨n, hp⟩ | hp | hp
    · exact absurd hp (h h0 n)
    · rw [hp] at c
      exact c_Parse_syn t hlim w he (c.mono (by rintro e w' ⟨rfl, rfl⟩; exact ⟨rfl, Lib.bytesWorld_below _ _ _⟩))
    · rw [hp] at c
      exact c_Parse_rng t hlim w he (c.mono (by rintro e w' ⟨rfl, rfl⟩; exact ⟨rfl, Lib.bytesWorld_below _ _ _⟩))

/-! ### what a part reads as -/
def hexRd (l : List UInt8) : Option (Option Nat) := match lowF 0 l with
  | none => none
  | some n => if l.length = 8 ∧ bitsN (cls .f32 n) = n then some (cls .f32 n) else none
theorem hexRd_yes {l : List UInt8} {n : Nat} (h8 : l.length = 8) (h : lowF 0 l = some n) (hb : bitsN (cls .f32 n) = n) : hexRd l = some (cls .f32 n) := by
  rw [hexRd, h]; exact if_pos ⟨h8, hb⟩
theorem hexRd_len {l : List UInt8} (h8 : l.length ≠ 8) : hexRd l = none := by
  rw [hexRd]; cases lowF 0 l with
  | none => rfl
  | some n => exact if_neg fun c => h8 c.1
theorem hexRd_low {l : List UInt8} (h : lowF 0 l = none) : hexRd l = none := by rw [hexRd, h]
theorem hexRd_bits {l : List UInt8} {n : Nat} (h : lowF 0 l = some n) (hb : bitsN (cls .f32 n) ≠ n) : hexRd l = none := by
  rw [hexRd, h]; exact if_neg fun c => hb c.2
theorem hexRd_inv {l : List UInt8} {c : Option Nat} (h : hexRd l = some c) : ∃ n, n < 4294967296 ∧ l = hexN 8 n ∧ c = cls .f32 n ∧ bitsN (cls .f32 n) = n := by
  rw [hexRd] at h
  cases hl : lowF 0 l with
  | none => rw [hl] at h; cases h
  | some n =>
    rw [hl] at h
    have h2 : (if l.length = 8 ∧ bitsN (cls .f32 n) = n then some (cls .f32 n) else none) = some c := h
    split at h2
    · rename_i hc
      obtain ⟨e1, e2⟩ := low8 hc.1 hl
      exact ⟨n, e2, e1, (Option.some.inj h2).symm, hc.2⟩
    · cases h2
theorem cls_lt {n : Nat} (h : n < 4294967296) : bitsN (cls .f32 n) < 4294967296 := bitsN_lt (Fv.self (k := .f32) h)
theorem hexRd_same {l : List UInt8} {n : Nat} (hn : n < 4294967296) (hp : hexP 0 l = .ok n) (he : hexN 8 (bitsN (cls .f32 n)) = l) : hexRd l = some (cls .f32 n) := by
  have hm := cls_lt hn
  have e := parse8 hm
  rw [he, hp] at e
  have e2 : n = bitsN (cls .f32 n) := Lib.NumEnd.ok.inj e
  have hl := low8_back hm
  rw [he] at hl
  rw [← e2] at hl
  exact hexRd_yes (by rw [← he]; exact hexN_length _ _) hl e2.symm
theorem hexRd_other {l : List UInt8} {n : Nat} (hp : hexP 0 l = .ok n) (he : hexN 8 (bitsN (cls .f32 n)) ≠ l) : hexRd l = none := by
  cases hr : hexRd l with
  | none => rfl
  | some c =>
    obtain ⟨k, hk, rfl, _, hb⟩ := hexRd_inv hr
    have e := parse8 hk
    rw [hp] at e
    obtain rfl := Lib.NumEnd.ok.inj e
    exact absurd (by rw [hb]) he
theorem hexRd_ok {l : List UInt8} {c : Option Nat} (h : hexRd l = some c) : ∃ n, hexP 0 l = .ok n := by
  obtain ⟨k, hk, rfl, _⟩ := hexRd_inv h
  exact ⟨k, parse8 hk⟩

/-- A part read: the number and whether. -/
def RetX (o : Option (Option Nat)) (w : World) (e : Ending) (w' : World) : Prop :=
  (∃ x, e = .returned (.tuple #[.float .f32 x, .bool o.isSome]) ∧ ∀ c, o = some c → Fv .f32 x c) ∧ Below w.heap.size w w'
theorem retX_none {w w' : World} {x : Nat} (hb : Below w.heap.size w w') : RetX none w (.returned (.tuple #[.float .f32 x, .bool false])) w' :=
  ⟨⟨x, rfl, fun c h => by cases h⟩, hb⟩
theorem retX_some {w w' : World} {x : Nat} {c : Option Nat} (h : Fv .f32 x c) (hb : Below w.heap.size w w') : RetX (some c) w (.returned (.tuple #[.float .f32 x, .bool true])) w' :=
  ⟨⟨x, rfl, fun d e => by cases e; exact h⟩, hb⟩
theorem wrap32 {n : Nat} (h : n < 4294967296) : IntKind.u32.wrap (n : Int) = (n : Int) := by
  rw [IntKind.wrap_u32]; omega
theorem list_ne {a b : ByteArray} (h : a ≠ b) : (a.toList == b.toList) = false := by
  rw [beq_eq_false_iff_ne]
  intro e
  apply h
  rw [Go.ByteArray.toList_eq, Go.ByteArray.toList_eq] at e
  exact ByteArray.ext (Array.toList_inj.1 e)

set_option maxHeartbeats 1000000 in
theorem c_fromHex {w : World} {s : ByteArray} (hs : s.size ≤ 1048576) (hd : Db w) (he : Errs w) :
    Calls Tryd.prog 15 #[.string s] w (RetX (hexRd s.data.toList) w) := by
  by_cases h0 : s.size ≠ 0 ∧ ∃ n, hexP 0 s.data.toList = .ok n
  · obtain ⟨hne, n, hp⟩ := h0
    have c := c_Parse_ok s hne (by omega) hp w
    have hn := hexP_lt _ _ _ (by decide) hp
    by_cases h8 : s.size = 8
    · have hwr := wrap32 hn
      have hx := f32from
      have hf : Fv .f32 n (cls .f32 n) := Fv.self (k := .f32) hn
      have HD := Lib.hid (And.intro hd hf)
      clear hd he
      have ch : ∀ w', Below w.heap.size w w' → Calls Tryd.prog 24 #[.float .f32 n] w' fun e w'' => e = .returned (.string (hex8 (bitsN (cls .f32 n)))) ∧ Below w'.heap.size w' w'' := fun w' hb => c_hexOf hf w' (HD.out.1.on hb (Nat.le_refl _))
      clear hf
      by_cases heq : hex8 (bitsN (cls .f32 n)) = s
      · have hr : hexRd s.data.toList = some (cls .f32 n) := hexRd_same hn hp (by rw [← heq])
        rw [hr]
        rw [heq] at ch
        have HR := Lib.hid (And.intro hp (And.intro heq hr))
        clear hp heq hr hn
        go_enter Tryd.func15, Tryd.ntmps15
        go_wp2_with fail
        refine c.mono ?_
        rintro e w1 ⟨rfl, hb1⟩
        have c2 := ch w1 hb1
        clear ch
        go_wp2_with (go_at_call 24; refine c2.mono ?_; rintro e w2 ⟨rfl, hb2⟩)
        go_ret2
        exact retX_some HD.out.2 (hb1.trans (hb2.mono hb1.size))
      · have hr : hexRd s.data.toList = none := hexRd_other hp (fun e => heq (bytes_eq e.symm).symm)
        rw [hr]
        have hnl := list_ne heq
        obtain ⟨t, htd⟩ : ∃ t, t = hex8 (bitsN (cls .f32 n)) := ⟨_, rfl⟩
        rw [← htd] at hnl ch
        clear hp heq hr hn htd
        go_enter Tryd.func15, Tryd.ntmps15
        go_wp2_with fail
        refine c.mono ?_
        rintro e w1 ⟨rfl, hb1⟩
        have c2 := ch w1 hb1
        clear ch
        go_wp2_with (go_at_call 24; refine c2.mono ?_; rintro e w2 ⟨rfl, hb2⟩)
        go_ret2
        exact retX_none (hb1.trans (hb2.mono hb1.size))
    · have hr : hexRd s.data.toList = none := hexRd_len h8
      rw [hr]
      clear hp hr hd he hn
      go_enter Tryd.func15, Tryd.ntmps15
      go_wp2_with fail
      refine c.mono ?_
      rintro e w1 ⟨rfl, hb1⟩
      go_wp2_with fail
      go_ret2
      exact retX_none hb1
  · have hr : hexRd s.data.toList = none := by
      cases hr : hexRd s.data.toList with
      | none => rfl
      | some c =>
        obtain ⟨n, hp⟩ := hexRd_ok hr
        refine absurd ⟨?_, n, hp⟩ h0
        intro e
        obtain rfl := size_zero e
        cases hr
    have c := c_Parse_bad s hs (fun h n e => h0 ⟨h, n, e⟩) w he
    rw [hr]
    clear hr h0 hd he
    go_enter Tryd.func15, Tryd.ntmps15
    go_wp2_with fail
    refine c.mono ?_
    rintro e w1 ⟨⟨v, tp, p, rfl⟩, hb1⟩
    go_wp2_with fail
    go_ret2
    exact retX_none hb1

end Go.Proofs.YteibkechlkjpgabDoor
