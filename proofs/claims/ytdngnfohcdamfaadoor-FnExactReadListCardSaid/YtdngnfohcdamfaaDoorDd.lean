/-
  ListText: both sides give the numbers' text. No condition but the table's.
-/
import Derived.Test.YtdngnfohcdamfaaDoorDc
import Derived.Lib.Join
set_option linter.unusedVariables false
namespace Go.Proofs.YtdngnfohcdamfaaDoor
open Go.RowKit Go.Proofs.YtdngnfohcdamfaaDoor.Fl

/-! ### plain -/
def inV (z : Int) : Bool := decide (-1000000000000000 ≤ z) && decide (z ≤ 1000000000000000)
def okL (xs : List Int) : Bool := xs.all inV && decide (xs.length ≤ 64)
/-- The text of a list. -/
def txt (xs : List Int) : List UInt8 := if xs = [] then [110, 111, 110, 101] else Lib.join (xs.map Lib.itoa) [44]
def resL (xs : List Int) : ByteArray := if okL xs then ⟨(txt xs).toArray⟩ else ⟨#[]⟩

theorem inV_range {z : Int} (h : inV z = true) : -1000000000000000 ≤ z ∧ z ≤ 1000000000000000 := by
  simpa [inV] using h

theorem itoa_len {n : Int} (h0 : -9223372036854775808 ≤ n) (h1 : n ≤ 9223372036854775807) : (Lib.itoa n).length ≤ 20 := by
  unfold Lib.itoa
  by_cases c : n < 0
  · rw [if_pos c, List.length_cons, Lib.decDigits_length]
    have := nDigits_le 18 n.natAbs (by omega)
    omega
  · rw [if_neg c, Lib.decDigits_length]
    have := nDigits_le 18 n.toNat (by omega)
    omega

theorem tail_len {n : Nat} : ∀ {r : List (List UInt8)}, (∀ x ∈ r, x.length ≤ n) → (Lib.joinTail [44] r).length ≤ (n + 1) * r.length
  | [], _ => by simp [Lib.joinTail]
  | x :: r, h => by
    have h1 := h x (by simp)
    have h2 := tail_len (r := r) (fun y hy => h y (by simp [hy]))
    have e : Lib.joinTail [44] (x :: r) = 44 :: (x ++ Lib.joinTail [44] r) := by simp [Lib.joinTail]
    rw [e, List.length_cons, List.length_append, List.length_cons, Nat.mul_succ]
    omega

theorem join_len {xs : List Int} (hv : xs.all inV = true) (h64 : xs.length ≤ 64) : (Lib.join (xs.map Lib.itoa) [44]).length ≤ 1400 := by
  have hx : ∀ x ∈ xs.map Lib.itoa, x.length ≤ 20 := by
    intro x hx
    obtain ⟨z, hz, rfl⟩ := List.mem_map.1 hx
    have := inV_range (List.all_eq_true.1 hv z hz)
    exact itoa_len (by omega) (by omega)
  cases xs with
  | nil => simp [Lib.join_nil]
  | cons z r =>
    rw [List.map_cons, Lib.join_cons, List.length_append]
    have h1 := hx (Lib.itoa z) (by simp)
    have h2 := tail_len (n := 20) (r := r.map Lib.itoa) (fun y hy => hx y (by simp at hy ⊢; exact Or.inr hy))
    simp at h2 h64
    omega

theorem joinTail_append (a b : List (List UInt8)) : Lib.joinTail [44] (a ++ b) = Lib.joinTail [44] a ++ Lib.joinTail [44] b := by simp [Lib.joinTail]

theorem join_more {xs : List Int} {k : Nat} {z : Int} (h1 : 1 ≤ k) (hz : xs[k]? = some z) :
    Lib.join ((xs.take (k + 1)).map Lib.itoa) [44] = Lib.join ((xs.take k).map Lib.itoa) [44] ++ 44 :: Lib.itoa z := by
  have e : xs.take (k + 1) = xs.take k ++ [z] := by rw [List.take_add_one, hz]; rfl
  have hk : k < xs.length := (List.getElem?_eq_some_iff.1 hz).1
  rw [e, List.map_append]
  obtain ⟨y, r, hr⟩ : ∃ y r, xs.take k = y :: r := by
    cases hc : xs.take k with
    | nil => have := congrArg List.length hc; rw [List.length_take, List.length_nil] at this; omega
    | cons y r => exact ⟨y, r, rfl⟩
  rw [hr, List.map_cons, List.cons_append, Lib.join_cons, Lib.join_cons, joinTail_append, List.append_assoc]
  simp [Lib.joinTail]

theorem take_first {xs : List Int} {z : Int} (hz : xs[0]? = some z) : xs.take 1 = [z] := by cases xs <;> simp_all
theorem bytes_of {s : ByteArray} {l : List UInt8} (h : s.data.toList = l) : s = ⟨l.toArray⟩ := by
  subst h; rfl
theorem toList_app (a b : ByteArray) : (a ++ b).data.toList = a.data.toList ++ b.data.toList := by simp
theorem dec_list (n : Int) : (dec n).data.toList = Lib.itoa n := rfl

theorem okL_of {xs : List Int} (h1 : xs.all inV = true) (h2 : xs.length ≤ 64) : okL xs = true := by simp [okL, h1, h2]
theorem okL_not {xs : List Int} {k : Nat} {z : Int} (hz : xs[k]? = some z) (h : inV z = false) : okL xs = false := by
  have : xs.all inV = false := by
    rw [List.all_eq_false]
    exact ⟨z, List.mem_of_getElem? hz, by simp [h]⟩
  simp [okL, this]
theorem okL_long {xs : List Int} (h : ¬ xs.length ≤ 64) : okL xs = false := by simp [okL]; intro _; omega
theorem take_all {xs : List Int} {k : Nat} {z : Int} (hz : xs[k]? = some z) (h : inV z = true) (hk : (xs.take k).all inV = true) : (xs.take (k + 1)).all inV = true := by
  rw [List.take_add_one, hz, List.all_append, hk]; simp [h]

theorem ret_b {a b : Bool} (h : a = b) : Ending.returned (.bool a) = .returned (.bool b) := by rw [h]
theorem ret_s {a b : ByteArray} (h : a = b) : Ending.returned (.string a) = .returned (.string b) := by rw [h]
theorem ret_sb {a b : ByteArray} {c d : Bool} (h : a = b) (k : c = d) : Ending.returned (.tuple #[.string a, .bool c]) = .returned (.tuple #[.string b, .bool d]) := by rw [h, k]

/-! ### one number's range -/
theorem c_l00In {n a b : Int} {r : Bool} (h : (decide (a ≤ n) && decide (n ≤ b)) = r) (w : World) :
    Calls Tryd.prog 30 #[.int .i64 n, .int .i64 a, .int .i64 b] w fun e w' => e = .returned (.bool r) ∧ w' = w := by
  subst h
  by_cases h : a ≤ n
  · have h' : decide (a ≤ n) = true := by simpa using h
    go_enter Tryd.func30, Tryd.ntmps30
    go_wp2
    go_ret
    exact ⟨ret_b (by rw [h']; rfl), rfl⟩
  · have h' : decide (a ≤ n) = false := by simpa using h
    go_enter Tryd.func30, Tryd.ntmps30
    go_wp2
    go_ret
    exact ⟨ret_b (by simp), rfl⟩

theorem c_isValue {n : Int} {r : Bool} (h : inV n = r) (w : World) :
    Calls Tryd.prog 23 #[.int .i64 n] w fun e w' => e = .returned (.bool r) ∧ w' = w := by
  subst h
  by_cases h : -1000000000000000 ≤ n
  · go_enter Tryd.func23, Tryd.ntmps23
    go_wp2
    go_ret
    exact ⟨ret_b (by simp [inV, h]), rfl⟩
  · go_enter Tryd.func23, Tryd.ntmps23
    go_wp2
    go_ret
    exact ⟨ret_b (by simp [inV]; omega), rfl⟩

/-! ### the reference -/
set_option maxHeartbeats 1000000 in
theorem c_l01List {w : World} {A : Option Addr} {cap : Nat} {xs : List Int} (h : RdI w A xs) (hn : xs.length ≤ 1048576) :
    Calls Tryd.prog 21 #[.slice A xs.length cap] w (RetB (okL xs) w) := by
  go_enter Tryd.func21, Tryd.ntmps21
  go_wp2
  go_loopw [3] (fun i wr => ∃ k : Nat, k ≤ xs.length ∧ i = .int .i64 k ∧ Hid ((xs.take k).all inV = true) ∧ Below w.heap.size w wr) (fun i _ => xs.length - (intOf i).toNat)
  case atStart => exact ⟨0, Nat.zero_le _, rfl, rfl, Below.refl _ _⟩
  case round =>
    obtain ⟨k, hk, rfl, hall, hbw⟩ := hrel
    by_cases hlt : k < xs.length
    · obtain ⟨ad, z, rfl, hc, hz⟩ := (h.below hbw).at_ hlt
      have hc2 := hc.2
      have HN := Lib.hid (And.intro hc (And.intro hz h))
      clear hc hz h
      cases hin : inV z with
      | true =>
        have HI := Lib.hid hin
        clear hin
        go_wp2_with (go_at_call 30; refine (c_l00In HI.out _).mono ?_; rintro e w' ⟨rfl, rfl⟩)
        obtain ⟨hc, hz, h⟩ := HN.out
        go_roundw
        case rel => exact ⟨k + 1, by omega, by go_num, take_all hz HI.out hall.out, hbw⟩
        case measure => simp [intOf]; omega
      | false =>
        have HI := Lib.hid hin
        clear hin
        go_wp2_with (go_at_call 30; refine (c_l00In HI.out _).mono ?_; rintro e w' ⟨rfl, rfl⟩)
        go_ret
        exact ⟨ret_b (okL_not HN.out.2.1 HI.out).symm, hbw⟩
    · obtain rfl : k = xs.length := by omega
      clear h
      by_cases h64 : xs.length ≤ 64
      · go_wp2
        go_ret
        exact ⟨ret_b (by rw [okL_of (by have := hall.out; rwa [List.take_length] at this) h64]; simp; omega), hbw⟩
      · go_wp2
        go_ret
        exact ⟨ret_b (by rw [okL_long h64]; simp; omega), hbw⟩

set_option maxHeartbeats 1000000 in
theorem c_l01Text {w : World} {A : Option Addr} {cap : Nat} {xs : List Int} (h : RdI w A xs) (hv : xs.all inV = true) (h64 : xs.length ≤ 64) :
    Calls Tryd.prog 22 #[.slice A xs.length cap] w fun e w' => e = .returned (.string ⟨(txt xs).toArray⟩) ∧ Below w.heap.size w w' := by
  by_cases h0 : xs = []
  · subst h0
    go_enter Tryd.func22, Tryd.ntmps22
    go_wp2
    go_ret
    exact ⟨rfl, Below.refl _ _⟩
  · have hl : 0 < xs.length := List.length_pos_iff.2 h0
    obtain ⟨ad, z, rfl, hc, hz⟩ := h.at_ hl
    have hr := inV_range (List.all_eq_true.1 hv z (List.mem_of_getElem? hz))
    have hc2 : w.cell? ad = some (.int .i64 z) := by have := hc.2; rwa [show ad.add 0 = ad by simp [Addr.add]] at this
    have HN := Lib.hid (And.intro hc (And.intro hz (And.intro h (And.intro hv h0))))
    clear hc hz h hv h0
    go_enter Tryd.func22, Tryd.ntmps22
    go_wp2_with (go_at_call 19; refine (c_spec_l01Dec (by omega) (by omega) _).mono ?_; rintro e w1 ⟨rfl, hb1⟩)
    go_loopw [3, 4] (fun s i wr => ∃ (k : Nat) (t : ByteArray), 1 ≤ k ∧ k ≤ xs.length ∧ i = .int .i64 k ∧ s = .string t ∧ Hid (t.data.toList = Lib.join ((xs.take k).map Lib.itoa) [44]) ∧ Below w.heap.size w wr) (fun _ i _ => xs.length - (intOf i).toNat)
    case atStart =>
      refine ⟨1, _, Nat.le_refl _, hl, rfl, rfl, ?_, hb1⟩
      show _ = _
      have e : xs.take 1 = [z] := take_first HN.out.2.1
      rw [e]; simp [Lib.join_one]
    case round =>
      obtain ⟨k, t, hk1, hk, rfl, rfl, ht, hbw⟩ := hrel
      by_cases hlt : k < xs.length
      · obtain ⟨hc, hz, h, hv, h0⟩ := HN.out
        obtain ⟨ad', z', he, hc', hz'⟩ := (h.below hbw).at_ hlt
        obtain rfl := Option.some.inj he
        have hr' := inV_range (List.all_eq_true.1 hv z' (List.mem_of_getElem? hz'))
        have hc2' := hc'.2
        have HK := Lib.hid hz'
        have hs0 : (Lib.itoa z').length ≤ 20 := itoa_len (by omega) (by omega)
        have hs3 : t.size ≤ 1400 := by
          have := join_len (xs := xs.take k) (List.all_eq_true.2 fun y hy => List.all_eq_true.1 hv y (List.mem_of_mem_take hy)) (by rw [List.length_take]; omega)
          rw [← ht.out] at this
          simpa using this
        have hs1 : ¬ 9223372036854775807 < 1 + (Lib.itoa z').length := by omega
        have hs2 : ¬ 9223372036854775807 < t.size + (1 + (Lib.itoa z').length) := by omega
        clear hs0 hs3
        clear hc' hz' he hc hz h hv h0 hr
        go_wp2_with (go_at_call 19; refine (c_spec_l01Dec (by omega) (by omega) _).mono ?_; rintro e w2 ⟨rfl, hb2⟩)
        go_roundw
        case rel =>
          refine ⟨k + 1, _, by omega, by omega, by go_num, rfl, ?_, hbw.trans (hb2.mono hbw.size)⟩
          show _ = _
          rw [join_more hk1 HK.out, ← ht.out]
          simp
        case measure => simp [intOf]; omega
      · obtain rfl : k = xs.length := by omega
        go_wp2
        go_ret
        refine ⟨ret_s (bytes_of ?_), hbw⟩
        rw [ht.out, List.take_length, txt, if_neg HN.out.2.2.2.2]

end Go.Proofs.YtdngnfohcdamfaaDoor
