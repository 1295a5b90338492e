/-
  Plain facts about rounding in IEEE formats: bounds by powers of two, and exactness. No Go and no program in sight; no condition.
-/
import Derived.Test.YteibkechlkjpgabDoorFl
set_option linter.unusedVariables false
namespace Go.Proofs.YteibkechlkjpgabDoor.Fl
open Ieee

/-! ### cutting off digits -/
theorem cut_low (neg : Bool) (n drop : Nat) (h : drop ≤ n.log2 + 2) :
    Toward.even.cut neg n drop = n / 2 ^ drop + (decide (2 ^ drop < 2 * (n % 2 ^ drop)) || (2 ^ drop == 2 * (n % 2 ^ drop) && n / 2 ^ drop % 2 == 1)).toNat := by
  unfold Toward.cut
  simp only
  rw [Nat.min_eq_left h, Nat.shiftLeft_eq, Nat.one_mul]

theorem cut_high (neg : Bool) (n drop : Nat) (h : n.log2 + 2 ≤ drop) : Toward.even.cut neg n drop = 0 := by
  unfold Toward.cut
  simp only
  rw [Nat.min_eq_right h, Nat.shiftLeft_eq, Nat.one_mul]
  have h1 : n < 2 ^ (n.log2 + 1) := Nat.lt_log2_self
  have h2 : 2 ^ (n.log2 + 2) = 2 * 2 ^ (n.log2 + 1) := by rw [Nat.pow_succ, Nat.mul_comm]
  rw [Nat.div_eq_of_lt (by omega), Nat.mod_eq_of_lt (by omega)]
  have a : ¬ 2 ^ (n.log2 + 2) < 2 * n := by omega
  have b : (2 ^ (n.log2 + 2) == 2 * n) = false := by rw [beq_eq_false_iff_ne]; omega
  rw [b, decide_eq_false a]
  simp

theorem cut_le (neg : Bool) (n drop c : Nat) (h : n ≤ c * 2 ^ drop) : Toward.even.cut neg n drop ≤ c := by
  by_cases hd : drop ≤ n.log2 + 2
  · rw [cut_low neg n drop hd]
    have hp := Nat.two_pow_pos drop
    have hdm := Nat.div_add_mod n (2 ^ drop)
    have hm := Nat.mod_lt n hp
    by_cases hr : n % 2 ^ drop = 0
    · have hle : n / 2 ^ drop ≤ c := Nat.div_le_of_le_mul (by rw [Nat.mul_comm]; exact h)
      rw [hr]
      have hz : (2 ^ drop == 0) = false := by rw [beq_eq_false_iff_ne]; omega
      simp [hle, hz]
    · have hlt : n / 2 ^ drop < c := by
        refine Nat.lt_of_not_le fun hge => ?_
        have h2 : 2 ^ drop * c ≤ 2 ^ drop * (n / 2 ^ drop) := Nat.mul_le_mul_left _ hge
        rw [Nat.mul_comm c] at h
        omega
      have hb : ∀ b : Bool, b.toNat ≤ 1 := fun b => by cases b <;> simp
      have := hb (decide (2 ^ drop < 2 * (n % 2 ^ drop)) || (2 ^ drop == 2 * (n % 2 ^ drop) && n / 2 ^ drop % 2 == 1))
      omega
  · rw [cut_high neg n drop (by omega)]; omega

theorem cut_exact (neg : Bool) (c drop : Nat) : Toward.even.cut neg (c * 2 ^ drop) drop = c := by
  have hp := Nat.two_pow_pos drop
  by_cases hd : drop ≤ (c * 2 ^ drop).log2 + 2
  · rw [cut_low neg _ drop hd, Nat.mul_div_cancel _ hp, Nat.mul_mod_left]
    have hz : (2 ^ drop == 0) = false := by rw [beq_eq_false_iff_ne]; omega
    simp [hz]
  · have hc : c = 0 := by
      by_cases e : c = 0
      · exact e
      · have : drop ≤ (c * 2 ^ drop).log2 := (Nat.le_log2 (by
          have : 0 < c * 2 ^ drop := Nat.mul_pos (by omega) hp
          omega)).2 (Nat.le_mul_of_pos_left _ (by omega))
        omega
    subst hc
    rw [cut_high neg _ drop (by omega)]

/-! ### rounding -/
/-- The rung to which 'nearest' goes. -/
def near (f : Format) (neg : Bool) (mag : Nat) (place : Int) : Nat :=
  if mag = 0 then 0 else
  min ((max (place + mag.log2 - f.fractionBits) f.leastPlace - f.leastPlace).toNat * f.binade +
    Toward.even.cut neg (mag <<< (place - max (place + mag.log2 - f.fractionBits) f.leastPlace).toNat) (max (place + mag.log2 - f.fractionBits) f.leastPlace - place).toNat) f.infRung

theorem nearest_word (f : Format) (neg : Bool) (mag : Nat) (place : Int) : f.nearest neg mag place = f.word neg (near f neg mag place) := by
  unfold Format.nearest near
  by_cases h : mag = 0
  · rw [if_pos h, if_pos h]
  · rw [if_neg h, if_neg h]

theorem near_le_inf (f : Format) (neg : Bool) (mag : Nat) (place : Int) : near f neg mag place ≤ f.infRung := by
  unfold near
  split
  · exact Nat.zero_le _
  · exact Nat.min_le_right ..

theorem near_lt (f : Format) (neg : Bool) (mag : Nat) (place : Int) : near f neg mag place < f.signWeight :=
  Nat.lt_of_le_of_lt (near_le_inf f neg mag place) f.infRung_lt

theorem rung_nearest (f : Format) (neg : Bool) (mag : Nat) (place : Int) : rung f (f.nearest neg mag place) = near f neg mag place := by
  rw [nearest_word, rung_word f neg (near_lt f neg mag place)]

theorem sgn_nearest (f : Format) (neg : Bool) (mag : Nat) (place : Int) : sgn f (f.nearest neg mag place) = neg := by
  rw [nearest_word, sgn_word f neg (near_lt f neg mag place)]

/-- A magnitude up to a power of two is rounded to that power at most. The power is 'D'; 'P' is its binade. -/
theorem near_bound (f : Format) (neg : Bool) (m : Nat) (e D : Int) (P : Nat) (hD : D = f.leastPlace + f.fractionBits + P - 1) (hP : 2 ≤ P)
    (he : e ≤ D) (hm : m ≤ 2 ^ (D - e).toNat) : near f neg m e ≤ P * f.binade := by
  unfold near
  by_cases h0 : m = 0
  · rw [if_pos h0]; exact Nat.zero_le _
  rw [if_neg h0]
  refine Nat.le_trans (Nat.min_le_left ..) ?_
  have hlo : 2 ^ m.log2 ≤ m := Nat.log2_self_le h0
  have hhi : m < 2 ^ (m.log2 + 1) := Nat.lt_log2_self
  have hL : m.log2 ≤ (D - e).toNat := (Nat.pow_le_pow_iff_right (by omega)).1 (Nat.le_trans hlo hm)
  generalize hl : m.log2 = L at *
  by_cases hc : L = (D - e).toNat
  · have hm2 : m = 2 ^ L := by rw [← hc] at hm; omega
    have hmax : max (e + (L : Int) - f.fractionBits) f.leastPlace = f.leastPlace + ((P - 1 : Nat) : Int) := by omega
    rw [hmax]
    have e1 : (f.leastPlace + ((P - 1 : Nat) : Int) - f.leastPlace).toNat = P - 1 := by omega
    rw [e1]
    have hk : Toward.even.cut neg (m <<< (e - (f.leastPlace + ((P - 1 : Nat) : Int))).toNat) (f.leastPlace + ((P - 1 : Nat) : Int) - e).toNat = f.binade := by
      rw [Nat.shiftLeft_eq, hm2, ← Nat.pow_add]
      have : 2 ^ (L + (e - (f.leastPlace + ((P - 1 : Nat) : Int))).toNat) = f.binade * 2 ^ (f.leastPlace + ((P - 1 : Nat) : Int) - e).toNat := by
        unfold Format.binade
        rw [← Nat.pow_add]
        congr 1
        omega
      rw [this, cut_exact]
    rw [hk]
    obtain ⟨q, rfl⟩ : ∃ q, P = q + 1 := ⟨P - 1, by omega⟩
    rw [Nat.add_sub_cancel, Nat.succ_mul]
    exact Nat.le_refl _
  · have hlast : max (e + (L : Int) - f.fractionBits) f.leastPlace ≤ f.leastPlace + ((P - 2 : Nat) : Int) := by omega
    have hlast2 : e + (L : Int) - f.fractionBits ≤ max (e + (L : Int) - f.fractionBits) f.leastPlace := by omega
    generalize max (e + (L : Int) - f.fractionBits) f.leastPlace = T at *
    have e1 : (T - f.leastPlace).toNat ≤ P - 2 := by omega
    have hk : Toward.even.cut neg (m <<< (e - T).toNat) (T - e).toNat ≤ 2 * f.binade := by
      refine cut_le neg _ _ _ ?_
      rw [Nat.shiftLeft_eq]
      have : 2 * f.binade * 2 ^ (T - e).toNat = 2 ^ (f.fractionBits + 1 + (T - e).toNat) := by
        unfold Format.binade
        rw [Nat.pow_add, Nat.pow_succ, Nat.mul_comm 2]
      rw [this]
      refine Nat.le_trans (Nat.mul_le_mul_right _ (Nat.le_of_lt hhi)) ?_
      rw [← Nat.pow_add]
      exact Nat.pow_le_pow_right (by omega) (by omega)
    have h2 : (T - f.leastPlace).toNat * f.binade ≤ (P - 2) * f.binade := Nat.mul_le_mul_right _ e1
    obtain ⟨q, rfl⟩ : ∃ q, P = q + 2 := ⟨P - 2, by omega⟩
    rw [Nat.add_sub_cancel] at h2
    rw [Nat.add_mul]
    omega

theorem log2_of {n k : Nat} (h1 : 2 ^ k ≤ n) (h2 : n < 2 ^ (k + 1)) : n.log2 = k := by
  have hn : n ≠ 0 := by have := Nat.two_pow_pos k; omega
  have a := (Nat.le_log2 hn).2 h1
  have b := (Nat.log2_lt hn).2 h2
  omega

/-- A NUMBER THAT THE FORMAT HAS IS ROUNDED TO ITSELF. -/
theorem near_exact (f : Format) (neg : Bool) (m : Nat) (e : Int) (r : Nat) (hr : r ≤ f.infRung) (hm : m ≠ 0)
    (hv : m * 2 ^ (e - f.leastPlace).toNat = sv f r * 2 ^ (f.leastPlace - e).toNat) : near f neg m e = r := by
  unfold near
  rw [if_neg hm]
  have hbp := binade_pos f
  have hlo : 2 ^ m.log2 ≤ m := Nat.log2_self_le hm
  have hhi : m < 2 ^ (m.log2 + 1) := Nat.lt_log2_self
  generalize hl : m.log2 = L at *
  -- the logarithm of both sides
  have hlogl : (m * 2 ^ (e - f.leastPlace).toNat).log2 = L + (e - f.leastPlace).toNat := by
    refine log2_of ?_ ?_
    · rw [Nat.pow_add]; exact Nat.mul_le_mul_right _ hlo
    · rw [Nat.add_right_comm, Nat.pow_add]; exact Nat.mul_lt_mul_of_pos_right hhi (Nat.two_pow_pos _)
  by_cases h1 : r < f.binade
  · have hs : sv f r = r := by unfold sv; rw [if_pos h1]
    rw [hs] at hv
    have hr0 : r ≠ 0 := by
      intro e0
      rw [e0, Nat.zero_mul] at hv
      have : 0 < m * 2 ^ (e - f.leastPlace).toNat := Nat.mul_pos (by omega) (Nat.two_pow_pos _)
      omega
    have hlogr : (r * 2 ^ (f.leastPlace - e).toNat).log2 = r.log2 + (f.leastPlace - e).toNat := by
      refine log2_of ?_ ?_
      · rw [Nat.pow_add]; exact Nat.mul_le_mul_right _ (Nat.log2_self_le hr0)
      · rw [Nat.add_right_comm, Nat.pow_add]; exact Nat.mul_lt_mul_of_pos_right Nat.lt_log2_self (Nat.two_pow_pos _)
    have hrl : r.log2 < f.fractionBits := (Nat.log2_lt hr0).2 h1
    rw [hv, hlogr] at hlogl
    have hmax : max (e + (L : Int) - f.fractionBits) f.leastPlace = f.leastPlace := by omega
    rw [hmax, Nat.shiftLeft_eq, hv, cut_exact]
    rw [show (f.leastPlace - f.leastPlace).toNat = 0 by omega, Nat.zero_mul, Nat.zero_add]
    exact Nat.min_eq_left hr
  · have hs : sv f r = (f.binade + r % f.binade) * 2 ^ (r / f.binade - 1) := by unfold sv; rw [if_neg h1]
    have hq : 1 ≤ r / f.binade := (Nat.one_le_div_iff hbp).2 (by omega)
    have ht := Nat.mod_lt r hbp
    have hdm := Nat.div_add_mod r f.binade
    generalize hqq : r / f.binade = q at *
    generalize htt : r % f.binade = t at *
    have hlogr : (sv f r * 2 ^ (f.leastPlace - e).toNat).log2 = f.fractionBits + (q - 1) + (f.leastPlace - e).toNat := by
      rw [hs]
      refine log2_of ?_ ?_
      · rw [Nat.pow_add, Nat.pow_add]
        exact Nat.mul_le_mul_right _ (Nat.mul_le_mul_right _ (Nat.le_add_right _ _))
      · rw [show f.fractionBits + (q - 1) + (f.leastPlace - e).toNat + 1 = f.fractionBits + 1 + (q - 1) + (f.leastPlace - e).toNat by omega, Nat.pow_add, Nat.pow_add]
        refine Nat.mul_lt_mul_of_pos_right (Nat.mul_lt_mul_of_pos_right ?_ (Nat.two_pow_pos _)) (Nat.two_pow_pos _)
        rw [Nat.pow_succ]
        show f.binade + t < f.binade * 2
        omega
    rw [hv, hlogr] at hlogl
    have hmax : max (e + (L : Int) - f.fractionBits) f.leastPlace = f.leastPlace + ((q - 1 : Nat) : Int) := by omega
    rw [hmax]
    have hk : Toward.even.cut neg (m <<< (e - (f.leastPlace + ((q - 1 : Nat) : Int))).toNat) (f.leastPlace + ((q - 1 : Nat) : Int) - e).toNat = f.binade + t := by
      rw [Nat.shiftLeft_eq]
      have : m * 2 ^ (e - (f.leastPlace + ((q - 1 : Nat) : Int))).toNat = (f.binade + t) * 2 ^ (f.leastPlace + ((q - 1 : Nat) : Int) - e).toNat := by
        rw [hs, Nat.mul_assoc, ← Nat.pow_add] at hv
        by_cases c1 : f.leastPlace + ((q - 1 : Nat) : Int) ≤ e
        · rw [show (f.leastPlace + ((q - 1 : Nat) : Int) - e).toNat = 0 by omega, Nat.pow_zero, Nat.mul_one]
          rw [show (e - f.leastPlace).toNat = (e - (f.leastPlace + ((q - 1 : Nat) : Int))).toNat + (q - 1) by omega, show q - 1 + (f.leastPlace - e).toNat = q - 1 by omega, Nat.pow_add, ← Nat.mul_assoc] at hv
          exact Nat.eq_of_mul_eq_mul_right (Nat.two_pow_pos _) hv
        · rw [show (e - (f.leastPlace + ((q - 1 : Nat) : Int))).toNat = 0 by omega, Nat.pow_zero, Nat.mul_one]
          rw [show q - 1 + (f.leastPlace - e).toNat = (f.leastPlace + ((q - 1 : Nat) : Int) - e).toNat + (e - f.leastPlace).toNat by omega, Nat.pow_add, ← Nat.mul_assoc] at hv
          exact Nat.eq_of_mul_eq_mul_right (Nat.two_pow_pos _) hv
      rw [this, cut_exact]
    rw [hk, show (f.leastPlace + ((q - 1 : Nat) : Int) - f.leastPlace).toNat = q - 1 by omega]
    have hsum : (q - 1) * f.binade + (f.binade + t) = r := by
      obtain ⟨p, hp⟩ : ∃ p, q = p + 1 := ⟨q - 1, by omega⟩
      subst hp
      rw [Nat.add_sub_cancel]
      rw [Nat.mul_add, Nat.mul_comm] at hdm
      omega
    rw [hsum]
    exact Nat.min_eq_left hr

/-- Every number with few digits from the least place upwards has its rung. -/
theorem rung_exists (f : Format) (m p : Nat) (hm : m < 2 * f.binade) : ∃ r, sv f r = m * 2 ^ p := by
  have hbp := binade_pos f
  by_cases h0 : m = 0
  · exact ⟨0, by rw [sv_zero, h0, Nat.zero_mul]⟩
  have hlo : 2 ^ m.log2 ≤ m := Nat.log2_self_le h0
  have hhi : m < 2 ^ (m.log2 + 1) := Nat.lt_log2_self
  have hLf : m.log2 ≤ f.fractionBits := by
    have : m.log2 < f.fractionBits + 1 := (Nat.log2_lt h0).2 (by rw [Nat.pow_succ, Nat.mul_comm]; exact hm)
    omega
  generalize m.log2 = L at *
  by_cases h1 : L + p < f.fractionBits
  · refine ⟨m * 2 ^ p, ?_⟩
    unfold sv
    rw [if_pos]
    unfold Format.binade
    calc m * 2 ^ p < 2 ^ (L + 1) * 2 ^ p := Nat.mul_lt_mul_of_pos_right hhi (Nat.two_pow_pos _)
      _ = 2 ^ (L + 1 + p) := (Nat.pow_add ..).symm
      _ ≤ 2 ^ f.fractionBits := Nat.pow_le_pow_right (by omega) (by omega)
  · have ha : f.binade ≤ m * 2 ^ (f.fractionBits - L) := by
      calc f.binade = 2 ^ L * 2 ^ (f.fractionBits - L) := by unfold Format.binade; rw [← Nat.pow_add]; congr 1; omega
        _ ≤ _ := Nat.mul_le_mul_right _ hlo
    have hb : m * 2 ^ (f.fractionBits - L) < 2 * f.binade := by
      calc m * 2 ^ (f.fractionBits - L) < 2 ^ (L + 1) * 2 ^ (f.fractionBits - L) := Nat.mul_lt_mul_of_pos_right hhi (Nat.two_pow_pos _)
        _ = 2 * f.binade := by unfold Format.binade; rw [← Nat.pow_add, show L + 1 + (f.fractionBits - L) = f.fractionBits + 1 by omega, Nat.pow_succ, Nat.mul_comm]
    obtain ⟨t, ht⟩ : ∃ t, m * 2 ^ (f.fractionBits - L) = f.binade + t := ⟨m * 2 ^ (f.fractionBits - L) - f.binade, by omega⟩
    have htb : t < f.binade := by omega
    refine ⟨(L + p - f.fractionBits + 1) * f.binade + t, ?_⟩
    have hd : ((L + p - f.fractionBits + 1) * f.binade + t) / f.binade = L + p - f.fractionBits + 1 := by
      rw [Nat.mul_comm, Nat.mul_add_div hbp, Nat.div_eq_of_lt htb, Nat.add_zero]
    have hmod : ((L + p - f.fractionBits + 1) * f.binade + t) % f.binade = t := by
      rw [Nat.mul_comm, Nat.mul_add_mod, Nat.mod_eq_of_lt htb]
    unfold sv
    rw [if_neg (by rw [Nat.succ_mul]; omega), hd, hmod, ← ht, Nat.add_sub_cancel, Nat.mul_assoc, ← Nat.pow_add]
    congr 2
    omega

end Go.Proofs.YteibkechlkjpgabDoor.Fl
