/-
  A statement whose order is open, by facts: each operation leaves a fact of its own and keeps the facts of those that have come up before; whatever order is drawn, behind the last all facts hold. Of whatever program; no condition.
-/
import Derived.WalkKit
import Derived.Orders
import Derived.RegionTactic
import Derived.Below
import Derived.Deep.RegionHeld
import Derived.Laws.Rows
set_option linter.unusedVariables false
namespace Go.Proofs.YteibkechlkjpgabDoor.Fl
open Go.RowKit

section
variable {P : Program} {ops : Array Oper} {Q : Exit → Act → World → Prop} {md : Region.Mode}

/-- Whoever has come up, those that it waits for have come up. -/
def ClosedL (md : Region.Mode) (ops : Array Oper) (L : Nat → Bool) : Prop :=
  ∀ j o, ops[j]? = some o → L j = true → ∀ e ∈ o.after, Region.binds md e = true → L e.on = true

/-- Every operation waits for earlier ones alone. -/
def backB (md : Region.Mode) (ops : Array Oper) : Bool :=
  (List.range ops.size).all fun i => match ops[i]? with
    | some o => o.after.all fun e => !Region.binds md e || decide (e.on < i)
    | none => true

theorem back_of (h : backB md ops = true) : ∀ i o, ops[i]? = some o → ∀ e ∈ o.after, Region.binds md e = true → e.on < i := by
  intro i o ho e he hb
  have hi : i < ops.size := (Array.getElem?_eq_some_iff.1 ho).1
  unfold backB at h
  have h1 := List.all_eq_true.1 h i (List.mem_range.2 hi)
  rw [ho] at h1
  have h2 := Array.all_eq_true_iff_forall_mem.1 h1 e he
  simpa [hb] using h2

theorem wpAny_facts (F : Nat → Act → World → Prop) (G : Act → World → Prop) (hback : backB md ops = true)
    (step : ∀ i o, ops[i]? = some o → ∀ (L : Nat → Bool) (a : Act) (w : World), G a w → L i = false → (∀ e ∈ o.after, Region.binds md e = true → L e.on = true) →
      ClosedL md ops L → (∀ j, j < ops.size → L j = true → F j a w) →
      wpOp P ops Q i (fun a' w' => G a' w' ∧ F i a' w' ∧ ∀ j, j < ops.size → L j = true → F j a' w') a w)
    (fin : ∀ a w, G a w → (∀ j, j < ops.size → F j a w) → Q .normal a w) :
    ∀ (fuel : Nat) (listed : Array Bool) (a : Act) (w : World), listed.size = ops.size → ClosedL md ops (fun j => listed.getD j false) →
      (∃ l : List Nat, l.length ≤ fuel ∧ ∀ j, j < ops.size → listed.getD j false = false → j ∈ l) →
      G a w → (∀ j, j < ops.size → listed.getD j false = true → F j a w) → wpAny P md ops Q fuel listed a w := by
  have hb := back_of hback
  have hread : ∀ (listed : Array Bool), listed.size = ops.size → Region.ready md ops listed = [] → ∀ j, j < ops.size → listed.getD j false = true := by
    intro listed hsz hr j
    induction j using Nat.strongRecOn with
    | _ j ih =>
      intro hj
      cases hl : listed.getD j false with
      | true => rfl
      | false =>
        have hm : j ∈ Region.ready md ops listed := by
          refine mem_ready.2 ⟨?_, ops[j], Array.getElem?_eq_getElem hj, fun e he hbe => ?_⟩
          · have hjl : j < listed.size := by omega
            simp [hjl] at hl ⊢
            exact hl
          · exact ih e.on (hb j _ (Array.getElem?_eq_getElem hj) e he hbe) (Nat.lt_trans (hb j _ (Array.getElem?_eq_getElem hj) e he hbe) hj)
        rw [hr] at hm
        cases hm
  intro fuel
  induction fuel with
  | zero =>
    intro listed a w hsz hcl hl hG hF
    obtain ⟨l, hlen, hl⟩ := hl
    have hall : ∀ j, j < ops.size → listed.getD j false = true := by
      intro j hj
      cases h : listed.getD j false with
      | true => rfl
      | false =>
        have := hl j hj h
        rw [List.length_eq_zero_iff.1 (Nat.le_zero.1 hlen)] at this
        cases this
    refine ⟨?_, fin a w hG fun j hj => hF j hj (hall j hj)⟩
    rw [List.eq_nil_iff_forall_not_mem]
    intro j hj
    obtain ⟨h0, o, ho, _⟩ := mem_ready.1 hj
    have hjn : j < ops.size := (Array.getElem?_eq_some_iff.1 ho).1
    have h1 := hall j hjn
    have hjl : j < listed.size := by omega
    simp [hjl] at h0 h1
    rw [h0] at h1
    cases h1
  | succ fuel ih =>
    intro listed a w hsz hcl hl hG hF
    refine ⟨fun hr => fin a w hG fun j hj => hF j hj (hread listed hsz hr j hj), fun i hi => ?_⟩
    obtain ⟨h0, o, ho, hall⟩ := mem_ready.1 hi
    have hin : i < ops.size := (Array.getElem?_eq_some_iff.1 ho).1
    have hil : i < listed.size := by omega
    have h0' : listed.getD i false = false := by simp [hil] at h0 ⊢; exact h0
    refine wpOp_mono (fun a' w' h => ?_) (step i o ho (fun j => listed.getD j false) a w hG h0' hall hcl hF)
    obtain ⟨hG', hFi, hF'⟩ := h
    obtain ⟨l, hlen, hl⟩ := hl
    have hset : ∀ j, j ≠ i → (listed.setIfInBounds i true).getD j false = listed.getD j false := fun j hj => getD_set_ne false (Ne.symm hj)
    have hseti : (listed.setIfInBounds i true).getD i false = true := by simp [hil]
    refine ih _ a' w' (by simpa using hsz) ?_ ⟨l.erase i, ?_, ?_⟩ hG' ?_
    · intro j oj hoj hLj e he hbe
      by_cases hji : j = i
      · subst hji
        rw [ho] at hoj
        cases hoj
        exact getD_set_true (hall e he hbe)
      · have : listed.getD j false = true := by rw [← hset j hji]; exact hLj
        exact getD_set_true (hcl j oj hoj this e he hbe)
    · have := List.length_erase_of_mem (hl i hin h0')
      omega
    · intro j hj hLj
      have hji : j ≠ i := by
        intro e; subst e; rw [hseti] at hLj; cases hLj
      rw [hset j hji] at hLj
      exact (List.mem_erase_of_ne hji).2 (hl j hj hLj)
    · intro j hj hLj
      by_cases hji : j = i
      · subst hji; exact hFi
      · rw [hset j hji] at hLj
        exact hF' j hj hLj

/-- THE REGION: facts, none at the beginning. -/
theorem wp_region_facts {id : Nat} {a : Act} {w : World} (F : Nat → Act → World → Prop) (G : Act → World → Prop) (hm : P.follows .mixedOrders = true) (hback : backB .any ops = true)
    (h0 : G a w.drew)
    (step : ∀ i o, ops[i]? = some o → ∀ (L : Nat → Bool) (a : Act) (w : World), G a w → L i = false → (∀ e ∈ o.after, Region.binds .any e = true → L e.on = true) →
      ClosedL .any ops L → (∀ j, j < ops.size → L j = true → F j a w) →
      wpOp P ops Q i (fun a' w' => G a' w' ∧ F i a' w' ∧ ∀ j, j < ops.size → L j = true → F j a' w') a w)
    (fin : ∀ a w, G a w → (∀ j, j < ops.size → F j a w) → Q .normal a w) : (Code.region id ops true).wp P Q a w := by
  refine wp_region_any hm (wpAny_facts F G hback step fin ops.size _ a _ (by simp) ?_ ⟨List.range ops.size, by simp, fun j hj _ => List.mem_range.2 hj⟩ h0 ?_)
  · intro j o ho hL
    have hj : j < ops.size := (Array.getElem?_eq_some_iff.1 ho).1
    simp [hj] at hL
  · intro j hj hL
    simp [hj] at hL
end

/-! ### the same, where all but the last few operations each write a slot of their own and let the world grow alone -/
/-- A fact on a value that growth of the world keeps. -/
def Mono (φ : Value → World → Prop) : Prop := ∀ v w w', Below w.heap.size w w' → φ v w → φ v w'

/-- Only the slots listed may differ. -/
structure SameBut (slots : List Nat) (base a : Act) : Prop where
  size : a.tmps.size = base.tmps.size
  defers : a.defers = base.defers
  slot : ∀ d, slots.contains d = false → a.tmps.getD d undef = base.tmps.getD d undef

theorem SameBut.refl (slots : List Nat) (a : Act) : SameBut slots a a := ⟨rfl, rfl, fun _ _ => rfl⟩

theorem getD_put (a : Act) (d : Nat) (v : Value) (hd : d < a.tmps.size) : (a.put (some d) v).tmps.getD d undef = v := by
  unfold Act.put; simp [hd]

theorem getD_put_ne (a : Act) (d e : Nat) (v : Value) (hne : d ≠ e) : (a.put (some d) v).tmps.getD e undef = a.tmps.getD e undef := by
  unfold Act.put
  simp [Array.getElem?_setIfInBounds_ne hne]

theorem SameBut.put {slots : List Nat} {base a : Act} (h : SameBut slots base a) {d : Nat} (hd : slots.contains d = true) (v : Value) : SameBut slots base (a.put (some d) v) := by
  refine ⟨by unfold Act.put; simpa using h.size, h.defers, fun e he => ?_⟩
  have hne : d ≠ e := by intro c; subst c; rw [hd] at he; cases he
  rw [getD_put_ne a d e v hne]
  exact h.slot e he

/-- A frame, its listed slots taken from elsewhere. -/
def mix (slots : List Nat) (f : Nat → Value) : Nat → List Value → List Value
  | _, [] => []
  | i, v :: l => (if slots.contains i then f i else v) :: mix slots f (i + 1) l

theorem mix_get (slots : List Nat) (f : Nat → Value) (l : List Value) : ∀ (i j : Nat), (mix slots f i l)[j]? = (l[j]?).map fun v => if slots.contains (i + j) then f (i + j) else v := by
  induction l with
  | nil => intro i j; simp [mix]
  | cons v l ih =>
    intro i j
    cases j with
    | zero => simp [mix]
    | succ j => simp only [mix, List.getElem?_cons_succ, ih]; rw [show i + 1 + j = i + (j + 1) by omega]

theorem SameBut.lit {slots : List Nat} {l : List Value} {df : List Deferred} {a : Act} (h : SameBut slots { tmps := l.toArray, defers := df } a) :
    ∃ f : Nat → Value, (∀ d, slots.contains d = true → d < l.length → a.tmps.getD d undef = f d) ∧ a = { tmps := (mix slots f 0 l).toArray, defers := df } := by
  refine ⟨fun d => a.tmps.getD d undef, fun _ _ _ => rfl, ?_⟩
  obtain ⟨hs, hd, hsl⟩ := h
  obtain ⟨t, d⟩ := a
  simp only at hs hd hsl ⊢
  subst hd
  congr 1
  apply Array.ext'
  apply List.ext_getElem?
  intro j
  rw [mix_get, Nat.zero_add]
  have hlen : t.toList.length = l.length := by simpa using hs
  by_cases hj : j < l.length
  · have hj' : j < t.size := by simpa using (hlen ▸ hj : j < t.toList.length)
    rw [List.getElem?_eq_getElem hj, List.getElem?_eq_getElem (by omega)]
    simp only [Option.map_some, Option.some.injEq]
    by_cases hc : slots.contains j = true
    · rw [if_pos hc]; simp [hj']
    · have hcf : slots.contains j = false := by simpa using hc
      have := hsl j hcf
      simp [hj', hj] at this
      rw [if_neg hc]; simp [this]
  · rw [List.getElem?_eq_none (by omega), List.getElem?_eq_none (by omega)]
    rfl

/-- What operation number i is known to have left. -/
def FactAt (Fs : List (Nat × (Value → World → Prop))) (i : Nat) (a : Act) (w : World) : Prop :=
  match Fs[i]? with
  | some p => p.2 (a.tmps.getD p.1 undef) w
  | none => True

/-- The first n operations write the slots that Fs names, each its own. -/
def headB (ops : Array Oper) (Fs : List (Nat × (Value → World → Prop))) (N : Nat) : Bool :=
  (List.range Fs.length).all fun i => match ops[i]?, Fs[i]? with
    | some o, some p => o.dst == some p.1 && decide (p.1 < N) && (List.range Fs.length).all fun j => j == i || match Fs[j]? with
      | some q => q.1 != p.1
      | none => true
    | _, _ => false

/-- Those behind them wait for all of them. -/
def tailB (ops : Array Oper) (n : Nat) : Bool :=
  (List.range ops.size).all fun j => decide (j < n) || (List.range n).all fun i => match ops[j]? with
    | some o => o.after.any fun e => Region.binds .any e && e.on == i
    | none => true

def listedTo (n m : Nat) : Array Bool := ((List.range m).map fun j => decide (j < n)).toArray

section
variable {P : Program} {ops : Array Oper} {Q : Exit → Act → World → Prop}

theorem wpAny_head (Fs : List (Nat × (Value → World → Prop))) (Inv : World → Prop) (base : Act) (hback : backB .any ops = true)
    (hhead : headB ops Fs base.tmps.size = true) (htail : tailB ops Fs.length = true) (hn : Fs.length ≤ ops.size)
    (hmono : ∀ p ∈ Fs, Mono p.2) (hinv : ∀ w w', Below w.heap.size w w' → Inv w → Inv w')
    (run : ∀ i o, i < Fs.length → ops[i]? = some o → ∀ (a : Act) (w : World), SameBut (Fs.map (·.1)) base a → Inv w →
      (∀ e ∈ o.after, Region.binds .any e = true → FactAt Fs e.on a w) →
      wpOp P ops Q i (fun a' w' => ∃ v, a' = a.put o.dst v ∧ (∀ p, Fs[i]? = some p → p.2 v w') ∧ Below w.heap.size w w') a w)
    (tail : ∀ a w, SameBut (Fs.map (·.1)) base a → Inv w → (∀ i, i < Fs.length → FactAt Fs i a w) → wpAny P .any ops Q (ops.size - Fs.length) (listedTo Fs.length ops.size) a w) :
    ∀ (k : Nat) (listed : Array Bool) (a : Act) (w : World), listed.size = ops.size → ClosedL .any ops (fun j => listed.getD j false) →
      (∀ j, Fs.length ≤ j → j < ops.size → listed.getD j false = false) → (∃ l : List Nat, l.length = k ∧ l.Nodup ∧ ∀ j, j ∈ l ↔ (j < Fs.length ∧ listed.getD j false = false)) →
      SameBut (Fs.map (·.1)) base a → Inv w → (∀ j, j < Fs.length → listed.getD j false = true → FactAt Fs j a w) → wpAny P .any ops Q (ops.size - Fs.length + k) listed a w := by
  have hb := back_of hback
  have hfacts : ∀ i, i < Fs.length → ∃ o p, ops[i]? = some o ∧ Fs[i]? = some p ∧ o.dst = some p.1 ∧ p.1 < base.tmps.size ∧ ∀ j q, j ≠ i → Fs[j]? = some q → q.1 ≠ p.1 := by
    intro i hi
    have h1 := List.all_eq_true.1 hhead i (List.mem_range.2 hi)
    have hop : i < ops.size := by omega
    rw [Array.getElem?_eq_getElem hop, List.getElem?_eq_getElem hi] at h1
    simp only [Bool.and_eq_true, beq_iff_eq, decide_eq_true_eq] at h1
    refine ⟨_, _, Array.getElem?_eq_getElem hop, List.getElem?_eq_getElem hi, h1.1.1, h1.1.2, fun j q hj hq => ?_⟩
    have hjn : j < Fs.length := (List.getElem?_eq_some_iff.1 hq).1
    have h2 := List.all_eq_true.1 h1.2 j (List.mem_range.2 hjn)
    rw [hq] at h2
    simpa [hj] using h2
  intro k
  induction k with
  | zero =>
    intro listed a w hsz hcl htl hl hsame hI hF
    obtain ⟨l, hlen, _, hl⟩ := hl
    have hnil : l = [] := List.length_eq_zero_iff.1 hlen
    subst hnil
    have hall : ∀ j, j < Fs.length → listed.getD j false = true := by
      intro j hj
      cases h : listed.getD j false with
      | true => rfl
      | false => exact absurd ((hl j).2 ⟨hj, h⟩) (by simp)
    have he : listed = listedTo Fs.length ops.size := by
      apply Array.ext
      · simp [listedTo, hsz]
      · intro j h1 h2
        have hj : j < ops.size := by omega
        by_cases hjn : j < Fs.length
        · have := hall j hjn
          simp [h1] at this
          simp [listedTo, hjn, this]
        · have := htl j (by omega) hj
          simp [h1] at this
          simp [listedTo, hjn, this]
    rw [he, Nat.add_zero]
    exact tail a w hsame hI fun j hj => hF j hj (hall j hj)
  | succ k ih =>
    intro listed a w hsz hcl htl hl hsame hI hF
    obtain ⟨l, hlen, hnd, hl⟩ := hl
    rw [show ops.size - Fs.length + (k + 1) = (ops.size - Fs.length + k) + 1 by omega]
    -- somebody of the head is left, so nobody of the tail may come up
    have hne : l ≠ [] := by intro c; rw [c] at hlen; cases hlen
    obtain ⟨j0, hj0⟩ := List.exists_mem_of_ne_nil l hne
    have hj0' := (hl j0).1 hj0
    have hreadyHead : ∀ i, i ∈ Region.ready .any ops listed → i < Fs.length := by
      intro i hi
      obtain ⟨_, o, ho, hall⟩ := mem_ready.1 hi
      have hin : i < ops.size := (Array.getElem?_eq_some_iff.1 ho).1
      by_cases c : i < Fs.length
      · exact c
      · have h1 := List.all_eq_true.1 htail i (List.mem_range.2 hin)
        simp only [c, decide_false, Bool.false_or] at h1
        have h2 := List.all_eq_true.1 h1 j0 (List.mem_range.2 hj0'.1)
        rw [ho] at h2
        obtain ⟨e, he, hbe⟩ := Array.any_eq_true'.1 h2
        simp only [Bool.and_eq_true, beq_iff_eq] at hbe
        have := hall e he hbe.1
        rw [hbe.2, hj0'.2] at this
        cases this
    have hsome : Region.ready .any ops listed ≠ [] := by
      -- the least of the head that is left
      intro hr
      have hall : ∀ j, j < Fs.length → listed.getD j false = true := by
        intro j
        induction j using Nat.strongRecOn with
        | _ j ihj =>
          intro hj
          cases hlj : listed.getD j false with
          | true => rfl
          | false =>
            have hjo : j < ops.size := by omega
            have hm : j ∈ Region.ready .any ops listed := by
              refine mem_ready.2 ⟨?_, ops[j], Array.getElem?_eq_getElem hjo, fun e he hbe => ?_⟩
              · have hjl : j < listed.size := by omega
                simp [hjl] at hlj ⊢
                exact hlj
              · have h3 := hb j _ (Array.getElem?_eq_getElem hjo) e he hbe
                exact ihj e.on h3 (by omega)
            rw [hr] at hm
            cases hm
      have := hall j0 hj0'.1
      rw [hj0'.2] at this
      cases this
    refine ⟨fun hr => absurd hr hsome, fun i hi => ?_⟩
    have hih := hreadyHead i hi
    obtain ⟨h0, o, ho, hall⟩ := mem_ready.1 hi
    have hin : i < ops.size := (Array.getElem?_eq_some_iff.1 ho).1
    have hil : i < listed.size := by omega
    have h0' : listed.getD i false = false := by simp [hil] at h0 ⊢; exact h0
    obtain ⟨o', p, ho', hp, hdst, hpN, huniq⟩ := hfacts i hih
    rw [ho] at ho'
    cases ho'
    refine wpOp_mono (fun a' w' h => ?_) (run i o hih ho a w hsame hI fun e he hbe => ?_)
    · obtain ⟨v, rfl, hv, hbel⟩ := h
      have hset : ∀ j, j ≠ i → (listed.setIfInBounds i true).getD j false = listed.getD j false := fun j hj => getD_set_ne false (Ne.symm hj)
      have hseti : (listed.setIfInBounds i true).getD i false = true := by simp [hil]
      have hcont : (Fs.map (·.1)).contains p.1 = true := by
        rw [List.contains_iff_mem]
        exact List.mem_map.2 ⟨p, List.mem_of_getElem? hp, rfl⟩
      rw [hdst]
      have hsame' := hsame.put hcont v
      refine ih _ _ w' (by simpa using hsz) ?_ ?_ ⟨l.erase i, ?_, hnd.erase i, ?_⟩ hsame' (hinv _ _ hbel hI) ?_
      · intro j oj hoj hLj e he hbe
        by_cases hji : j = i
        · subst hji
          rw [ho] at hoj
          cases hoj
          exact getD_set_true (hall e he hbe)
        · have : listed.getD j false = true := by rw [← hset j hji]; exact hLj
          exact getD_set_true (hcl j oj hoj this e he hbe)
      · intro j hj1 hj2
        rw [hset j (by omega)]
        exact htl j hj1 hj2
      · have := List.length_erase_of_mem ((hl i).2 ⟨hih, h0'⟩)
        omega
      · intro j
        rw [hnd.mem_erase_iff, hl]
        constructor
        · rintro ⟨hji, hj, hLj⟩
          exact ⟨hj, by rw [hset j hji]; exact hLj⟩
        · rintro ⟨hj, hLj⟩
          have hji : j ≠ i := by intro c; subst c; rw [hseti] at hLj; cases hLj
          exact ⟨hji, hj, by rw [← hset j hji]; exact hLj⟩
      · intro j hj hLj
        by_cases hji : j = i
        · subst hji
          unfold FactAt
          rw [hp]
          show p.2 _ _
          rw [getD_put a p.1 v (by rw [hsame.size]; exact hpN)]
          exact hv p hp
        · rw [hset j hji] at hLj
          have hf := hF j hj hLj
          unfold FactAt at hf ⊢
          cases hq : Fs[j]? with
          | none => trivial
          | some q =>
            rw [hq] at hf
            show q.2 _ _
            rw [getD_put_ne a p.1 q.1 v (Ne.symm (huniq j q hji hq))]
            exact hmono q (List.mem_of_getElem? hq) _ _ _ hbel hf
    · have h3 := hb i o ho e he hbe
      exact hF e.on (by omega) (hall e he hbe)

/-- THE REGION. -/
theorem wp_region_head {id : Nat} {a : Act} {w : World} (Fs : List (Nat × (Value → World → Prop))) (Inv : World → Prop) (hm : P.follows .mixedOrders = true)
    (hback : backB .any ops = true) (hhead : headB ops Fs a.tmps.size = true) (htail : tailB ops Fs.length = true) (hn : Fs.length ≤ ops.size)
    (hmono : ∀ p ∈ Fs, Mono p.2) (hinv : ∀ w w', Below w.heap.size w w' → Inv w → Inv w') (h0 : Inv w.drew)
    (run : ∀ i o, i < Fs.length → ops[i]? = some o → ∀ (a' : Act) (w : World), SameBut (Fs.map (·.1)) a a' → Inv w →
      (∀ e ∈ o.after, Region.binds .any e = true → FactAt Fs e.on a' w) →
      wpOp P ops Q i (fun b w' => ∃ v, b = a'.put o.dst v ∧ (∀ p, Fs[i]? = some p → p.2 v w') ∧ Below w.heap.size w w') a' w)
    (tail : ∀ a' w, SameBut (Fs.map (·.1)) a a' → Inv w → (∀ i, i < Fs.length → FactAt Fs i a' w) → wpAny P .any ops Q (ops.size - Fs.length) (listedTo Fs.length ops.size) a' w) :
    (Code.region id ops true).wp P Q a w := by
  refine wp_region_any hm ?_
  have h := wpAny_head Fs Inv a hback hhead htail hn hmono hinv run tail Fs.length (Array.replicate ops.size false) a w.drew (by simp) ?_ ?_ ⟨List.range Fs.length, by simp, List.nodup_range, ?_⟩ (SameBut.refl _ _) h0 ?_
  · rw [show ops.size - Fs.length + Fs.length = ops.size by omega] at h
    exact h
  · intro j o ho hL
    have hj : j < ops.size := (Array.getElem?_eq_some_iff.1 ho).1
    simp [hj] at hL
  · intro j _ hj
    simp [hj]
  · intro j
    constructor
    · intro hj
      have hj' := List.mem_range.1 hj
      exact ⟨hj', by simp [show j < ops.size by omega]⟩
    · intro h
      exact List.mem_range.2 h.1
  · intro j hj hL
    simp [show j < ops.size by omega] at hL

/-- What operation number i is known to have left, by the value in its slot. -/
def FactF (Fs : List (Nat × (Value → World → Prop))) (i : Nat) (f : Nat → Value) (w : World) : Prop :=
  match Fs[i]? with
  | some p => p.2 (f p.1) w
  | none => True

theorem factF_of {Fs : List (Nat × (Value → World → Prop))} {f : Nat → Value} {a : Act} {N : Nat} (hN : ∀ p ∈ Fs, p.1 < N)
    (hf : ∀ d, (Fs.map (·.1)).contains d = true → d < N → a.tmps.getD d undef = f d) {i : Nat} {w : World} (h : FactAt Fs i a w) : FactF Fs i f w := by
  unfold FactAt at h
  unfold FactF
  cases hq : Fs[i]? with
  | none => trivial
  | some p =>
    rw [hq] at h
    have hm := List.mem_of_getElem? hq
    have hc : (Fs.map (·.1)).contains p.1 = true := by
      rw [List.contains_iff_mem]
      exact List.mem_map.2 ⟨p, hm, rfl⟩
    show p.2 (f p.1) w
    rw [← hf p.1 hc (hN p hm)]
    exact h

/-- THE REGION, the frame written out. -/
theorem wp_region_drawn {id : Nat} {l : List Value} {df : List Deferred} {w : World} (Fs : List (Nat × (Value → World → Prop))) (Inv : World → Prop) (hm : P.follows .mixedOrders = true)
    (hback : backB .any ops = true) (hhead : headB ops Fs l.length = true) (htail : tailB ops Fs.length = true) (hn : Fs.length ≤ ops.size) (hN : (Fs.all fun p => decide (p.1 < l.length)) = true)
    (hmono : ∀ p ∈ Fs, Mono p.2) (hinv : ∀ w w', Below w.heap.size w w' → Inv w → Inv w') (h0 : Inv w.drew)
    (run : ∀ i o, i < Fs.length → ops[i]? = some o → ∀ (f : Nat → Value) (w : World), Inv w →
      (∀ e ∈ o.after, Region.binds .any e = true → FactF Fs e.on f w) →
      wpOp P ops Q i (fun b w' => ∃ v, b = ({ tmps := (mix (Fs.map (·.1)) f 0 l).toArray, defers := df } : Act).put o.dst v ∧ (∀ p, Fs[i]? = some p → p.2 v w') ∧ Below w.heap.size w w') { tmps := (mix (Fs.map (·.1)) f 0 l).toArray, defers := df } w)
    (tail : ∀ (f : Nat → Value) w, Inv w → (∀ i, i < Fs.length → FactF Fs i f w) → wpAny P .any ops Q (ops.size - Fs.length) (listedTo Fs.length ops.size) { tmps := (mix (Fs.map (·.1)) f 0 l).toArray, defers := df } w) :
    (Code.region id ops true).wp P Q { tmps := l.toArray, defers := df } w := by
  have hN' : ∀ p ∈ Fs, p.1 < l.length := fun p hp => by simpa using List.all_eq_true.1 hN p hp
  refine wp_region_head Fs Inv hm hback (by simpa using hhead) htail hn hmono hinv h0 ?_ ?_
  · intro i o hi ho a' w' hs hI hdep
    obtain ⟨f, hf, rfl⟩ := hs.lit
    exact run i o hi ho f w' hI fun e he hbe => factF_of hN' hf (hdep e he hbe)
  · intro a' w' hs hI hF
    obtain ⟨f, hf, rfl⟩ := hs.lit
    exact tail f w' hI fun i hi => factF_of hN' hf (hF i hi)
end

end Go.Proofs.YteibkechlkjpgabDoor.Fl
