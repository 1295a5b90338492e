/-
  The same, where some operations make blocks: those blocks lie apart. Of whatever program; no condition.
-/
import Derived.Test.YtpfijbgkhekjfaaFd
set_option linter.unusedVariables false
namespace Go.Proofs.Ytpfijbgkhekjfaa.Fl
open Go.RowKit

/-- The slots of S point to blocks that there are, each to its own. -/
structure Sep (S : List Nat) (a : Act) (w : World) : Prop where
  lt : ∀ d b, S.contains d = true → a.tmps.getD d undef = .pointer (some b) → b.block < w.heap.size
  ne : ∀ d e b c, S.contains d = true → S.contains e = true → d ≠ e → a.tmps.getD d undef = .pointer (some b) → a.tmps.getD e undef = .pointer (some c) → b.block ≠ c.block

theorem Sep.grow {S : List Nat} {a : Act} {w w' : World} (h : Sep S a w) (hs : w.heap.size ≤ w'.heap.size) : Sep S a w' :=
  ⟨fun d b h1 h2 => Nat.lt_of_lt_of_le (h.lt d b h1 h2) hs, h.ne⟩

theorem Sep.put {S : List Nat} {a : Act} {w w' : World} (h : Sep S a w) {d : Nat} {v : Value} (hd : d < a.tmps.size) (hs : w.heap.size ≤ w'.heap.size)
    (hv : ∀ b, S.contains d = true → v = .pointer (some b) → w.heap.size ≤ b.block ∧ b.block < w'.heap.size) : Sep S (a.put (some d) v) w' := by
  constructor
  · intro e b h1 h2
    by_cases c : d = e
    · subst c
      rw [getD_put a d v hd] at h2
      exact (hv b h1 h2).2
    · rw [getD_put_ne a d e v c] at h2
      exact Nat.lt_of_lt_of_le (h.lt e b h1 h2) hs
  · intro e f b c h1 h2 hne h3 h4
    by_cases ce : d = e
    · subst ce
      rw [getD_put a d v hd] at h3
      rw [getD_put_ne a d f v hne] at h4
      have := h.lt f c h2 h4
      have := (hv b h1 h3).1
      omega
    · rw [getD_put_ne a d e v ce] at h3
      by_cases cf : d = f
      · subst cf
        rw [getD_put a d v hd] at h4
        have := h.lt e b h1 h3
        have := (hv c h2 h4).1
        omega
      · rw [getD_put_ne a d f v cf] at h4
        exact h.ne e f b c h1 h2 hne h3 h4

theorem sep_start {S : List Nat} {l : List Value} {df : List Deferred} {w : World} (hS : (S.all fun d => match l[d]? with | some (.pointer _) => false | _ => true) = true) :
    Sep S { tmps := l.toArray, defers := df } w := by
  have key : ∀ d b, S.contains d = true → ({ tmps := l.toArray, defers := df } : Act).tmps.getD d undef ≠ .pointer (some b) := by
    intro d b h1 h2
    have h3 := List.all_eq_true.1 hS d (List.contains_iff_mem.1 h1)
    by_cases hd : d < l.length
    · rw [List.getElem?_eq_getElem hd] at h3
      have h4 : l[d] = .pointer (some b) := by simpa [hd] using h2
      rw [h4] at h3
      cases h3
    · have h4 : (undef : Value) = .pointer (some b) := by simpa [hd] using h2
      cases h4
  exact ⟨fun d b h1 h2 => absurd h2 (key d b h1), fun d e b c h1 h2 hne h3 h4 => absurd h3 (key d b h1)⟩

def SepF (S : List Nat) (f : Nat → Value) (w : World) : Prop :=
  ∀ d e b c, S.contains d = true → S.contains e = true → d ≠ e → f d = .pointer (some b) → f e = .pointer (some c) → b.block ≠ c.block

theorem Sep.toF {S : List Nat} {a : Act} {w : World} {f : Nat → Value} {Fs : List (Nat × (Value → World → Prop))} {N : Nat} (h : Sep S a w) (hSF : (S.all fun d => (Fs.map (·.1)).contains d) = true)
    (hN : ∀ p ∈ Fs, p.1 < N) (hf : ∀ d, (Fs.map (·.1)).contains d = true → d < N → a.tmps.getD d undef = f d) : SepF S f w := by
  have key : ∀ d, S.contains d = true → a.tmps.getD d undef = f d := by
    intro d hd
    have h1 := List.all_eq_true.1 hSF d (List.contains_iff_mem.1 hd)
    obtain ⟨p, hp, rfl⟩ := List.mem_map.1 (List.contains_iff_mem.1 h1)
    exact hf _ h1 (hN p hp)
  intro d e b c h1 h2 hne h3 h4
  exact h.ne d e b c h1 h2 hne ((key d h1).trans h3) ((key e h2).trans h4)

section
variable {P : Program} {ops : Array Oper} {Q : Exit → Act → World → Prop}

theorem wpAny_headS (S : List Nat) (Fs : List (Nat × (Value → World → Prop))) (Inv : World → Prop) (base : Act) (hback : backB .any ops = true)
    (hhead : headB ops Fs base.tmps.size = true) (htail : tailB ops Fs.length = true) (hn : Fs.length ≤ ops.size)
    (hmono : ∀ p ∈ Fs, Mono p.2) (hinv : ∀ w w', Below w.heap.size w w' → Inv w → Inv w')
    (run : ∀ i o, i < Fs.length → ops[i]? = some o → ∀ (a : Act) (w : World), SameBut (Fs.map (·.1)) base a → Inv w →
      (∀ e ∈ o.after, Region.binds .any e = true → FactAt Fs e.on a w) →
      wpOp P ops Q i (fun a' w' => ∃ v, a' = a.put o.dst v ∧ (∀ p, Fs[i]? = some p → p.2 v w') ∧ Below w.heap.size w w' ∧ (∀ d b, o.dst = some d → S.contains d = true → v = .pointer (some b) → w.heap.size ≤ b.block ∧ b.block < w'.heap.size)) a w)
    (tail : ∀ a w, SameBut (Fs.map (·.1)) base a → Inv w → Sep S a w → (∀ i, i < Fs.length → FactAt Fs i a w) → wpAny P .any ops Q (ops.size - Fs.length) (listedTo Fs.length ops.size) a w) :
    ∀ (k : Nat) (listed : Array Bool) (a : Act) (w : World), listed.size = ops.size → ClosedL .any ops (fun j => listed.getD j false) →
      (∀ j, Fs.length ≤ j → j < ops.size → listed.getD j false = false) → (∃ l : List Nat, l.length = k ∧ l.Nodup ∧ ∀ j, j ∈ l ↔ (j < Fs.length ∧ listed.getD j false = false)) →
      SameBut (Fs.map (·.1)) base a → Inv w → Sep S a w → (∀ j, j < Fs.length → listed.getD j false = true → FactAt Fs j a w) → wpAny P .any ops Q (ops.size - Fs.length + k) listed a w := by
  have hb := back_of hback
  have hfacts : ∀ i, i < Fs.length → ∃ o p, ops[i]? = some o ∧ Fs[i]? = some p ∧ o.dst = some p.1 ∧ p.1 < base.tmps.size ∧ ∀ j q, j ≠ i → Fs[j]? = some q → q.1 ≠ p.1 := by
    intro i hi
    have h1 := List.all_eq_true.1 hhead i (List.mem_range.2 hi)
    have hop : i < ops.size := by omega
    rw [Array.getElem?_eq_getElem hop, List.getElem?_eq_getElem hi] at h1
    simp only [Bool.and_eq_true, beq_iff_eq, decide_eq_true_eq] at h1
    refine ⟨_, _, Array.getElem?_eq_getElem hop, List.getElem?_eq_getElem hi, h1.1.1, h1.1.2, fun j q hj hq => ?_⟩
    have hjn : j < Fs.length := (List.getElem?_eq_some_iff.1 hq).1
    have h2 := List.all_eq_true.1 h1.2 j (List.mem_range.2 hjn)
    rw [hq] at h2
    simpa [hj] using h2
  intro k
  induction k with
  | zero =>
    intro listed a w hsz hcl htl hl hsame hI hsep hF
    obtain ⟨l, hlen, _, hl⟩ := hl
    have hnil : l = [] := List.length_eq_zero_iff.1 hlen
    subst hnil
    have hall : ∀ j, j < Fs.length → listed.getD j false = true := by
      intro j hj
      cases h : listed.getD j false with
      | true => rfl
      | false => exact absurd ((hl j).2 ⟨hj, h⟩) (by simp)
    have he : listed = listedTo Fs.length ops.size := by
      apply Array.ext
      · simp [listedTo, hsz]
      · intro j h1 h2
        have hj : j < ops.size := by omega
        by_cases hjn : j < Fs.length
        · have := hall j hjn
          simp [h1] at this
          simp [listedTo, hjn, this]
        · have := htl j (by omega) hj
          simp [h1] at this
          simp [listedTo, hjn, this]
    rw [he, Nat.add_zero]
    exact tail a w hsame hI hsep fun j hj => hF j hj (hall j hj)
  | succ k ih =>
    intro listed a w hsz hcl htl hl hsame hI hsep hF
    obtain ⟨l, hlen, hnd, hl⟩ := hl
    rw [show ops.size - Fs.length + (k + 1) = (ops.size - Fs.length + k) + 1 by omega]
    -- somebody of the head is left, so nobody of the tail may come up
    have hne : l ≠ [] := by intro c; rw [c] at hlen; cases hlen
    obtain ⟨j0, hj0⟩ := List.exists_mem_of_ne_nil l hne
    have hj0' := (hl j0).1 hj0
    have hreadyHead : ∀ i, i ∈ Region.ready .any ops listed → i < Fs.length := by
      intro i hi
      obtain ⟨_, o, ho, hall⟩ := mem_ready.1 hi
      have hin : i < ops.size := (Array.getElem?_eq_some_iff.1 ho).1
      by_cases c : i < Fs.length
      · exact c
      · have h1 := List.all_eq_true.1 htail i (List.mem_range.2 hin)
        simp only [c, decide_false, Bool.false_or] at h1
        have h2 := List.all_eq_true.1 h1 j0 (List.mem_range.2 hj0'.1)
        rw [ho] at h2
        obtain ⟨e, he, hbe⟩ := Array.any_eq_true'.1 h2
        simp only [Bool.and_eq_true, beq_iff_eq] at hbe
        have := hall e he hbe.1
        rw [hbe.2, hj0'.2] at this
        cases this
    have hsome : Region.ready .any ops listed ≠ [] := by
      -- the least of the head that is left
      intro hr
      have hall : ∀ j, j < Fs.length → listed.getD j false = true := by
        intro j
        induction j using Nat.strongRecOn with
        | _ j ihj =>
          intro hj
          cases hlj : listed.getD j false with
          | true => rfl
          | false =>
            have hjo : j < ops.size := by omega
            have hm : j ∈ Region.ready .any ops listed := by
              refine mem_ready.2 ⟨?_, ops[j], Array.getElem?_eq_getElem hjo, fun e he hbe => ?_⟩
              · have hjl : j < listed.size := by omega
                simp [hjl] at hlj ⊢
                exact hlj
              · have h3 := hb j _ (Array.getElem?_eq_getElem hjo) e he hbe
                exact ihj e.on h3 (by omega)
            rw [hr] at hm
            cases hm
      have := hall j0 hj0'.1
      rw [hj0'.2] at this
      cases this
    refine ⟨fun hr => absurd hr hsome, fun i hi => ?_⟩
    have hih := hreadyHead i hi
    obtain ⟨h0, o, ho, hall⟩ := mem_ready.1 hi
    have hin : i < ops.size := (Array.getElem?_eq_some_iff.1 ho).1
    have hil : i < listed.size := by omega
    have h0' : listed.getD i false = false := by simp [hil] at h0 ⊢; exact h0
    obtain ⟨o', p, ho', hp, hdst, hpN, huniq⟩ := hfacts i hih
    rw [ho] at ho'
    cases ho'
    refine wpOp_mono (fun a' w' h => ?_) (run i o hih ho a w hsame hI fun e he hbe => ?_)
    · obtain ⟨v, rfl, hv, hbel, hfr⟩ := h
      have hset : ∀ j, j ≠ i → (listed.setIfInBounds i true).getD j false = listed.getD j false := fun j hj => getD_set_ne false (Ne.symm hj)
      have hseti : (listed.setIfInBounds i true).getD i false = true := by simp [hil]
      have hcont : (Fs.map (·.1)).contains p.1 = true := by
        rw [List.contains_iff_mem]
        exact List.mem_map.2 ⟨p, List.mem_of_getElem? hp, rfl⟩
      rw [hdst]
      have hsame' := hsame.put hcont v
      refine ih _ _ w' (by simpa using hsz) ?_ ?_ ⟨l.erase i, ?_, hnd.erase i, ?_⟩ hsame' (hinv _ _ hbel hI) (hsep.put (by rw [hsame.size]; exact hpN) hbel.size fun b hS hv => hfr _ b hdst hS hv) ?_
      · intro j oj hoj hLj e he hbe
        by_cases hji : j = i
        · subst hji
          rw [ho] at hoj
          cases hoj
          exact getD_set_true (hall e he hbe)
        · have : listed.getD j false = true := by rw [← hset j hji]; exact hLj
          exact getD_set_true (hcl j oj hoj this e he hbe)
      · intro j hj1 hj2
        rw [hset j (by omega)]
        exact htl j hj1 hj2
      · have := List.length_erase_of_mem ((hl i).2 ⟨hih, h0'⟩)
        omega
      · intro j
        rw [hnd.mem_erase_iff, hl]
        constructor
        · rintro ⟨hji, hj, hLj⟩
          exact ⟨hj, by rw [hset j hji]; exact hLj⟩
        · rintro ⟨hj, hLj⟩
          have hji : j ≠ i := by intro c; subst c; rw [hseti] at hLj; cases hLj
          exact ⟨hji, hj, by rw [← hset j hji]; exact hLj⟩
      · intro j hj hLj
        by_cases hji : j = i
        · subst hji
          unfold FactAt
          rw [hp]
          show p.2 _ _
          rw [getD_put a p.1 v (by rw [hsame.size]; exact hpN)]
          exact hv p hp
        · rw [hset j hji] at hLj
          have hf := hF j hj hLj
          unfold FactAt at hf ⊢
          cases hq : Fs[j]? with
          | none => trivial
          | some q =>
            rw [hq] at hf
            show q.2 _ _
            rw [getD_put_ne a p.1 q.1 v (Ne.symm (huniq j q hji hq))]
            exact hmono q (List.mem_of_getElem? hq) _ _ _ hbel hf
    · have h3 := hb i o ho e he hbe
      exact hF e.on (by omega) (hall e he hbe)

/-- THE REGION. -/
theorem wp_region_headS {id : Nat} {a : Act} {w : World} (S : List Nat) (hsep : Sep S a w) (Fs : List (Nat × (Value → World → Prop))) (Inv : World → Prop) (hm : P.follows .mixedOrders = true)
    (hback : backB .any ops = true) (hhead : headB ops Fs a.tmps.size = true) (htail : tailB ops Fs.length = true) (hn : Fs.length ≤ ops.size)
    (hmono : ∀ p ∈ Fs, Mono p.2) (hinv : ∀ w w', Below w.heap.size w w' → Inv w → Inv w') (h0 : Inv w.drew)
    (run : ∀ i o, i < Fs.length → ops[i]? = some o → ∀ (a' : Act) (w : World), SameBut (Fs.map (·.1)) a a' → Inv w →
      (∀ e ∈ o.after, Region.binds .any e = true → FactAt Fs e.on a' w) →
      wpOp P ops Q i (fun b w' => ∃ v, b = a'.put o.dst v ∧ (∀ p, Fs[i]? = some p → p.2 v w') ∧ Below w.heap.size w w' ∧ (∀ d b, o.dst = some d → S.contains d = true → v = .pointer (some b) → w.heap.size ≤ b.block ∧ b.block < w'.heap.size)) a' w)
    (tail : ∀ a' w, SameBut (Fs.map (·.1)) a a' → Inv w → Sep S a' w → (∀ i, i < Fs.length → FactAt Fs i a' w) → wpAny P .any ops Q (ops.size - Fs.length) (listedTo Fs.length ops.size) a' w) :
    (Code.region id ops true).wp P Q a w := by
  refine wp_region_any hm ?_
  have h := wpAny_headS S Fs Inv a hback hhead htail hn hmono hinv run tail Fs.length (Array.replicate ops.size false) a w.drew (by simp) ?_ ?_ ⟨List.range Fs.length, by simp, List.nodup_range, ?_⟩ (SameBut.refl _ _) h0 (hsep.grow ((Below.refl w.heap.size w).drew).size) ?_
  · rw [show ops.size - Fs.length + Fs.length = ops.size by omega] at h
    exact h
  · intro j o ho hL
    have hj : j < ops.size := (Array.getElem?_eq_some_iff.1 ho).1
    simp [hj] at hL
  · intro j _ hj
    simp [hj]
  · intro j
    constructor
    · intro hj
      have hj' := List.mem_range.1 hj
      exact ⟨hj', by simp [show j < ops.size by omega]⟩
    · intro h
      exact List.mem_range.2 h.1
  · intro j hj hL
    simp [show j < ops.size by omega] at hL

/-- THE REGION, the frame written out. -/
theorem wp_region_drawnS {id : Nat} {l : List Value} {df : List Deferred} {w : World} (S : List Nat) (hS : (S.all fun d => match l[d]? with | some (.pointer _) => false | _ => true) = true) (Fs : List (Nat × (Value → World → Prop))) (Inv : World → Prop) (hm : P.follows .mixedOrders = true)
    (hback : backB .any ops = true) (hhead : headB ops Fs l.length = true) (htail : tailB ops Fs.length = true) (hn : Fs.length ≤ ops.size) (hN : (Fs.all fun p => decide (p.1 < l.length)) = true) (hSF : (S.all fun d => (Fs.map (·.1)).contains d) = true)
    (hmono : ∀ p ∈ Fs, Mono p.2) (hinv : ∀ w w', Below w.heap.size w w' → Inv w → Inv w') (h0 : Inv w.drew)
    (run : ∀ i o, i < Fs.length → ops[i]? = some o → ∀ (f : Nat → Value) (w : World), Inv w →
      (∀ e ∈ o.after, Region.binds .any e = true → FactF Fs e.on f w) →
      wpOp P ops Q i (fun b w' => ∃ v, b = ({ tmps := (mix (Fs.map (·.1)) f 0 l).toArray, defers := df } : Act).put o.dst v ∧ (∀ p, Fs[i]? = some p → p.2 v w') ∧ Below w.heap.size w w' ∧ (∀ d b, o.dst = some d → S.contains d = true → v = .pointer (some b) → w.heap.size ≤ b.block ∧ b.block < w'.heap.size)) { tmps := (mix (Fs.map (·.1)) f 0 l).toArray, defers := df } w)
    (tail : ∀ (f : Nat → Value) w, Inv w → SepF S f w → (∀ i, i < Fs.length → FactF Fs i f w) → wpAny P .any ops Q (ops.size - Fs.length) (listedTo Fs.length ops.size) { tmps := (mix (Fs.map (·.1)) f 0 l).toArray, defers := df } w) :
    (Code.region id ops true).wp P Q { tmps := l.toArray, defers := df } w := by
  have hN' : ∀ p ∈ Fs, p.1 < l.length := fun p hp => by simpa using List.all_eq_true.1 hN p hp
  refine wp_region_headS S (sep_start hS) Fs Inv hm hback (by simpa using hhead) htail hn hmono hinv h0 ?_ ?_
  · intro i o hi ho a' w' hs hI hdep
    obtain ⟨f, hf, rfl⟩ := hs.lit
    exact run i o hi ho f w' hI fun e he hbe => factF_of hN' hf (hdep e he hbe)
  · intro a' w' hs hI hsep hF
    obtain ⟨f, hf, rfl⟩ := hs.lit
    exact tail f w' hI (hsep.toF hSF hN' hf) fun i hi => factF_of hN' hf (hF i hi)
end

end Go.Proofs.Ytpfijbgkhekjfaa.Fl
