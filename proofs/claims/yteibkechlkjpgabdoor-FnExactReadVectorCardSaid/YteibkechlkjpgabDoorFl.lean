/-
  Plain facts about the words of IEEE formats: order, exactness and bounds of rounding. No Go and no program in sight; no condition.
-/
import Derived.Laws.FloatArith
set_option linter.unusedVariables false
namespace Go.Proofs.YteibkechlkjpgabDoor.Fl
open Ieee

/-! ### words, rungs, scaled values -/
def rung (f : Format) (b : Nat) : Nat := b % f.signWeight
def sgn (f : Format) (b : Nat) : Bool := b / f.signWeight % 2 == 1

theorem binade_pos (f : Format) : 0 < f.binade := Nat.two_pow_pos _
theorem signWeight_pos (f : Format) : 0 < f.signWeight := Nat.two_pow_pos _

theorem rung_lt (f : Format) (b : Nat) : rung f b < f.signWeight := Nat.mod_lt _ (signWeight_pos f)

theorem rung_word (f : Format) (s : Bool) {r : Nat} (h : r < f.signWeight) : rung f (f.word s r) = r := by
  unfold rung Format.word
  cases s
  · simpa using Nat.mod_eq_of_lt h
  · simp [Nat.mod_eq_of_lt h]

theorem sgn_word (f : Format) (s : Bool) {r : Nat} (h : r < f.signWeight) : sgn f (f.word s r) = s := by
  unfold sgn Format.word
  have hp := signWeight_pos f
  cases s
  · simp [Nat.div_eq_of_lt h]
  · have : (f.signWeight + r) / f.signWeight = 1 := by
      rw [Nat.add_div_left _ hp, Nat.div_eq_of_lt h]
    simp [this]

/-- A word is its sign and its rung. -/
theorem word_eq (f : Format) {b : Nat} (h : b < 2 ^ f.width) : f.word (sgn f b) (rung f b) = b := by
  have two : 2 ^ f.width = 2 * f.signWeight := by
    unfold Format.width Format.signWeight
    rw [Nat.add_assoc, Nat.add_comm 1, Nat.pow_succ, Nat.mul_comm]
  rw [two] at h
  have hp := signWeight_pos f
  unfold sgn rung Format.word
  by_cases hb : b < f.signWeight
  · simp [Nat.div_eq_of_lt hb, Nat.mod_eq_of_lt hb]
  · have hd : b / f.signWeight = 1 := by
      apply Nat.div_eq_of_lt_le <;> omega
    have hm := Nat.div_add_mod b f.signWeight
    rw [hd] at hm
    simp [hd]
    omega

/-- The magnitude of a rung, in units of the format's least place. -/
def sv (f : Format) (r : Nat) : Nat := if r < f.binade then r else (f.binade + r % f.binade) * 2 ^ (r / f.binade - 1)

theorem sv_zero (f : Format) : sv f 0 = 0 := by simp [sv, binade_pos]

theorem sv_succ (f : Format) (r : Nat) : sv f r < sv f (r + 1) := by
  have hp := binade_pos f
  unfold sv
  by_cases h1 : r + 1 < f.binade
  · rw [if_pos (by omega), if_pos h1]; omega
  · by_cases h2 : r < f.binade
    · have e : r + 1 = f.binade := by omega
      rw [if_pos h2, if_neg h1, e]
      simp [hp]
      omega
    · rw [if_neg h2, if_neg h1]
      have hq : 1 ≤ r / f.binade := (Nat.one_le_div_iff hp).2 (by omega)
      have hr := Nat.mod_lt r hp
      have hdm := Nat.div_add_mod r f.binade
      by_cases h3 : r % f.binade + 1 < f.binade
      · have hd : (r + 1) / f.binade = r / f.binade := by
          apply Nat.div_eq_of_lt_le
          · rw [Nat.mul_comm]; omega
          · rw [Nat.succ_mul, Nat.mul_comm]; omega
        have hm : (r + 1) % f.binade = r % f.binade + 1 := by
          have h := Nat.div_add_mod (r + 1) f.binade
          rw [hd] at h
          omega
        rw [hd, hm]
        exact Nat.mul_lt_mul_of_pos_right (by omega) (Nat.two_pow_pos _)
      · have hd : (r + 1) / f.binade = r / f.binade + 1 := by
          apply Nat.div_eq_of_lt_le
          · rw [Nat.succ_mul, Nat.mul_comm]; omega
          · rw [Nat.succ_mul, Nat.succ_mul, Nat.mul_comm]; omega
        have hm : (r + 1) % f.binade = 0 := by
          have h := Nat.div_add_mod (r + 1) f.binade
          rw [hd, Nat.mul_add] at h
          omega
        rw [hd, hm]
        obtain ⟨q, hq'⟩ : ∃ q, r / f.binade = q + 1 := ⟨r / f.binade - 1, by omega⟩
        rw [hq']
        simp only [Nat.add_sub_cancel, Nat.add_zero]
        rw [Nat.pow_succ]
        have : 0 < 2 ^ q := Nat.two_pow_pos _
        calc (f.binade + r % f.binade) * 2 ^ q < (f.binade * 2) * 2 ^ q := Nat.mul_lt_mul_of_pos_right (by omega) this
          _ = f.binade * (2 ^ q * 2) := by rw [Nat.mul_assoc, Nat.mul_comm 2]

theorem sv_strict (f : Format) {r r' : Nat} (h : r < r') : sv f r < sv f r' := by
  induction r' with
  | zero => omega
  | succ k ih =>
    have := sv_succ f k
    by_cases e : r = k
    · subst e; exact this
    · have := ih (by omega); omega

theorem sv_lt_iff (f : Format) (r r' : Nat) : sv f r < sv f r' ↔ r < r' := by
  constructor
  · intro h
    by_cases e : r < r'
    · exact e
    · by_cases e2 : r = r'
      · subst e2; omega
      · have := sv_strict f (show r' < r by omega); omega
  · exact sv_strict f

theorem sv_inj (f : Format) {r r' : Nat} (h : sv f r = sv f r') : r = r' := by
  by_cases e : r < r'
  · have := sv_strict f e; omega
  · by_cases e2 : r' < r
    · have := sv_strict f e2; omega
    · omega

theorem sv_eq_iff (f : Format) (r r' : Nat) : sv f r = sv f r' ↔ r = r' := ⟨sv_inj f, fun h => by rw [h]⟩

theorem sv_le_iff (f : Format) (r r' : Nat) : sv f r ≤ sv f r' ↔ r ≤ r' := by
  have := sv_lt_iff f r' r
  omega

/-- A number's word is read as a number of its scaled value. -/
structure Num (f : Format) (b : Nat) (s : Bool) (m : Nat) (e : Nat) : Prop where
  read : f.read b = .number s m (f.leastPlace + (e : Int))
  val : m * 2 ^ e = sv f (rung f b)
  sign : s = sgn f b
  small : m < 2 * f.binade

theorem read_num (f : Format) {b : Nat} (h : rung f b < f.infRung) : ∃ m e, Num f b (sgn f b) m e := by
  have hp := binade_pos f
  by_cases h1 : rung f b < f.binade
  · refine ⟨rung f b, 0, ?_, ?_, rfl, by omega⟩
    · unfold Format.read
      simp only
      rw [if_pos (show b % f.signWeight < f.binade from h1)]
      simp [sgn, rung]
    · unfold sv; rw [if_pos h1]; simp
  · refine ⟨f.binade + rung f b % f.binade, rung f b / f.binade - 1, ?_, ?_, rfl, by have := Nat.mod_lt (rung f b) hp; omega⟩
    · unfold Format.read
      simp only
      rw [if_neg (show ¬ b % f.signWeight < f.binade from h1), if_pos (show b % f.signWeight < f.infRung from h)]
      simp [sgn, rung]
    · unfold sv; rw [if_neg h1]

theorem read_inf (f : Format) (hb : f.binade ≤ f.infRung) {b : Nat} (h : rung f b = f.infRung) : f.read b = .infinity (sgn f b) := by
  unfold Format.read
  simp only
  have h' : b % f.signWeight = f.infRung := h
  rw [if_neg (by omega), if_neg (by omega), if_pos h']
  rfl

theorem read_nan (f : Format) (hb : f.binade ≤ f.infRung) {b : Nat} (h : f.infRung < rung f b) : f.read b = .nan (sgn f b) (rung f b - f.infRung) := by
  unfold Format.read
  simp only
  have h' : f.infRung < b % f.signWeight := h
  rw [if_neg (by omega), if_neg (by omega), if_neg (by omega)]
  rfl

theorem isNaN_iff (f : Format) (hb : f.binade ≤ f.infRung) (b : Nat) : (f.read b).isNaN = decide (f.infRung < rung f b) := by
  by_cases h : f.infRung < rung f b
  · rw [read_nan f hb h]; simp [Datum.isNaN, h]
  · by_cases h2 : rung f b = f.infRung
    · rw [read_inf f hb h2]; simp [Datum.isNaN, h]
    · obtain ⟨m, e, hn⟩ := read_num f (b := b) (by omega)
      rw [hn.read]; simp [Datum.isNaN, h]

theorem isInf_iff (f : Format) (hb : f.binade ≤ f.infRung) (b : Nat) : (f.read b).isInfinity = decide (rung f b = f.infRung) := by
  by_cases h : f.infRung < rung f b
  · rw [read_nan f hb h]; simp [Datum.isInfinity]; omega
  · by_cases h2 : rung f b = f.infRung
    · rw [read_inf f hb h2]; simp [Datum.isInfinity, h2]
    · obtain ⟨m, e, hn⟩ := read_num f (b := b) (by omega)
      rw [hn.read]; simp [Datum.isInfinity, h2]

/-! ### order -/
def pm (s : Bool) (n : Nat) : Int := if s then -(n : Int) else n

/-- The signed rung of a word. -/
def srung (f : Format) (b : Nat) : Int := pm (sgn f b) (rung f b)

theorem compare_of (a b c d : Int) (h1 : a < b ↔ c < d) (h2 : a = b ↔ c = d) : compare a b = compare c d := by
  show compareOfLessAndEq a b = compareOfLessAndEq c d
  unfold compareOfLessAndEq
  by_cases e : a < b
  · rw [if_pos e, if_pos (h1.1 e)]
  · rw [if_neg e, if_neg (fun k => e (h1.2 k))]
    by_cases e2 : a = b
    · rw [if_pos e2, if_pos (h2.1 e2)]
    · rw [if_neg e2, if_neg (fun k => e2 (h2.2 k))]

theorem compare_lt {a b : Int} (h : a < b) : compare a b = .lt := by
  show compareOfLessAndEq a b = _
  unfold compareOfLessAndEq; rw [if_pos h]
theorem compare_gt {a b : Int} (h : b < a) : compare a b = .gt := by
  show compareOfLessAndEq a b = _
  unfold compareOfLessAndEq; rw [if_neg (by omega), if_neg (by omega)]
theorem compare_eq {a b : Int} (h : a = b) : compare a b = .eq := by
  show compareOfLessAndEq a b = _
  unfold compareOfLessAndEq; rw [if_neg (by omega), if_pos h]

theorem pm_mul (s : Bool) (a b : Nat) : pm s (a * b) = pm s a * (b : Int) := by
  unfold pm; cases s <;> simp [Int.neg_mul]

theorem signed_pm (s : Bool) (m p : Nat) : signed s m p = pm s (m * 2 ^ p) := by
  unfold signed pm; rw [Nat.shiftLeft_eq]

theorem order_num (f : Format) {x y : Nat} {s t : Bool} {m n i j : Nat} (hx : Num f x s m i) (hy : Num f y t n j) :
    f.order x y = some (compare (pm s (sv f (rung f x))) (pm t (sv f (rung f y)))) := by
  unfold Format.order
  rw [hx.read, hy.read]
  simp only [Datum.order, signed_pm]
  rw [← hx.val, ← hy.val]
  congr 1
  have hk : ∀ k : Nat, 0 < ((2 ^ k : Nat) : Int) := fun k => by have := Nat.two_pow_pos k; omega
  have key : ∀ (c : Nat) (a b : Int), compare a b = compare (a * ((2 ^ c : Nat) : Int)) (b * ((2 ^ c : Nat) : Int)) := by
    intro c a b
    refine compare_of _ _ _ _ ⟨fun h => Int.mul_lt_mul_of_pos_right h (hk c), fun h => ?_⟩ ⟨fun h => by rw [h], fun h => ?_⟩
    · exact Int.lt_of_mul_lt_mul_right h (Int.le_of_lt (hk c))
    · exact Int.eq_of_mul_eq_mul_right (Int.ne_of_gt (hk c)) h
  by_cases hij : i ≤ j
  · have e1 : (f.leastPlace + (i : Int) - min (f.leastPlace + (i : Int)) (f.leastPlace + (j : Int))).toNat = 0 := by omega
    have e2 : (f.leastPlace + (j : Int) - min (f.leastPlace + (i : Int)) (f.leastPlace + (j : Int))).toNat = j - i := by omega
    rw [e1, e2, key i]
    rw [← pm_mul, ← pm_mul, Nat.pow_zero, Nat.mul_one, Nat.mul_assoc, ← Nat.pow_add, show j - i + i = j by omega]
  · have e1 : (f.leastPlace + (i : Int) - min (f.leastPlace + (i : Int)) (f.leastPlace + (j : Int))).toNat = i - j := by omega
    have e2 : (f.leastPlace + (j : Int) - min (f.leastPlace + (i : Int)) (f.leastPlace + (j : Int))).toNat = 0 := by omega
    rw [e1, e2, key j]
    rw [← pm_mul, ← pm_mul, Nat.pow_zero, Nat.mul_one, Nat.mul_assoc, ← Nat.pow_add, show i - j + j = i by omega]

/-- TWO WORDS THAT ARE NO NaN STAND TO EACH OTHER AS THEIR SIGNED RUNGS DO. -/
theorem order_eq (f : Format) (hb : f.binade ≤ f.infRung) {x y : Nat} (hx : rung f x ≤ f.infRung) (hy : rung f y ≤ f.infRung) :
    f.order x y = some (compare (srung f x) (srung f y)) := by
  have hp := binade_pos f
  have hlt := sv_lt_iff f
  have hinj := sv_eq_iff f
  by_cases h1 : rung f x < f.infRung
  · obtain ⟨m, i, hn⟩ := read_num f h1
    by_cases h2 : rung f y < f.infRung
    · obtain ⟨n, j, hm⟩ := read_num f h2
      rw [order_num f hn hm]
      congr 1
      have a1 := hlt (rung f x) (rung f y)
      have a2 := hlt (rung f y) (rung f x)
      have a3 := hinj (rung f x) (rung f y)
      have b1 := hinj (rung f x) 0
      have b2 := hinj (rung f y) 0
      have c1 := hlt 0 (rung f x)
      have c2 := hlt 0 (rung f y)
      rw [sv_zero] at b1 b2 c1 c2
      unfold srung pm
      cases sgn f x <;> cases sgn f y <;> simp only [Bool.false_eq_true, if_true, if_false] <;> refine compare_of _ _ _ _ ?_ ?_ <;> omega
    · have e : rung f y = f.infRung := by omega
      unfold Format.order
      rw [hn.read, read_inf f hb e]
      simp only [Datum.order]
      congr 1
      unfold srung pm
      rw [e]
      cases sgn f x <;> cases sgn f y <;> simp only [Bool.false_eq_true, if_true, if_false] <;> symm <;> first | exact compare_lt (by omega) | exact compare_gt (by omega)
  · have e : rung f x = f.infRung := by omega
    by_cases h2 : rung f y < f.infRung
    · obtain ⟨n, j, hm⟩ := read_num f h2
      unfold Format.order
      rw [hm.read, read_inf f hb e]
      simp only [Datum.order]
      congr 1
      unfold srung pm
      rw [e]
      cases sgn f x <;> cases sgn f y <;> simp only [Bool.false_eq_true, if_true, if_false] <;> symm <;> first | exact compare_lt (by omega) | exact compare_gt (by omega)
    · have e2 : rung f y = f.infRung := by omega
      unfold Format.order
      rw [read_inf f hb e, read_inf f hb e2]
      simp only [Datum.order]
      congr 1
      unfold srung pm
      rw [e, e2]
      have : 0 < f.infRung := by omega
      cases sgn f x <;> cases sgn f y <;> simp only [Bool.false_eq_true, if_true, if_false] <;> symm <;>
        first | exact compare_lt (by omega) | exact compare_gt (by omega) | exact compare_eq rfl

theorem order_nan_left (f : Format) (hb : f.binade ≤ f.infRung) {x : Nat} (y : Nat) (h : f.infRung < rung f x) : f.order x y = none := by
  unfold Format.order; rw [read_nan f hb h]; simp [Datum.order]

theorem order_nan_right (f : Format) (hb : f.binade ≤ f.infRung) (x : Nat) {y : Nat} (h : f.infRung < rung f y) : f.order x y = none := by
  unfold Format.order; rw [read_nan f hb h]; cases f.read x <;> simp [Datum.order]

end Go.Proofs.YteibkechlkjpgabDoor.Fl
