/-
  A statement whose order is open and in which stores may come up before later loads: facts by slot, and facts on blocks that are stored into. Of whatever program; no condition.
-/
import Derived.Test.YtpfijbgkhekjfaaFe
set_option linter.unusedVariables false
namespace Go.Proofs.Ytpfijbgkhekjfaa.Fl
open Go.RowKit

/-- Only block g's cells may differ; a float's cell stays a float's. -/
structure Into (g : Nat) (w w' : World) : Prop where
  os : w'.os = w.os
  tape : w'.tape = w.tape
  output : w'.output = w.output
  size : w'.heap.size = w.heap.size
  block : ∀ k, k ≠ g → w'.heap[k]? = w.heap[k]?
  frozen : ∀ p : Addr, w'.frozen? p = w.frozen? p
  keep : ∀ o k b, w.cell? ⟨g, o, none⟩ = some (.float k b) → ∃ b', w'.cell? ⟨g, o, none⟩ = some (.float k b')

theorem Into.cell {g : Nat} {w w' : World} (h : Into g w w') {p : Addr} (hp : p.block ≠ g) : w'.cell? p = w.cell? p := World.cell?_of_block (w := w) (h.block p.block hp)

theorem Into.refl (g : Nat) (w : World) : Into g w w := ⟨rfl, rfl, rfl, rfl, fun _ _ => rfl, fun _ => rfl, fun _ _ b h => ⟨b, h⟩⟩

theorem Into.trans {g : Nat} {w w1 w2 : World} (h : Into g w w1) (k : Into g w1 w2) : Into g w w2 :=
  ⟨k.os.trans h.os, k.tape.trans h.tape, k.output.trans h.output, k.size.trans h.size, fun p hp => (k.block p hp).trans (h.block p hp), fun p => (k.frozen p).trans (h.frozen p), fun o kk b hb => by
    obtain ⟨b1, h1⟩ := h.keep o kk b hb
    exact k.keep o kk b1 h1⟩

theorem into_set {w : World} {g o : Nat} {k : FloatKind} {b0 : Nat} (b : Nat) (h0 : w.cell? ⟨g, o, none⟩ = some (.float k b0)) : Into g w (w.setCell ⟨g, o, none⟩ (.float k b)) := by
  refine ⟨rfl, rfl, rfl, by simp, fun p hp => Below.heap_setCell _ _ _ _ hp, fun p => by simp, ?_⟩
  intro o' k' b' h'
  by_cases e : o' = o
  · subst e
    rw [h0] at h'
    cases h'
    exact ⟨b, by go_simp⟩
  · refine ⟨b', ?_⟩
    have hne : (⟨g, o, none⟩ : Addr) ≠ ⟨g, o', none⟩ := by intro c; cases c; exact e rfl
    rw [← h']
    go_simp

theorem below_into {B g : Nat} {a w w' : World} (h : Below B a w) (k : Into g w w') (hB : B ≤ g) : Below B a w' :=
  h.trans ⟨k.os, k.tape, k.output, by rw [k.size]; exact Nat.le_refl _, fun i hi => k.block i (by omega)⟩

/-- What an operation leaves: a value in its slot; or something on the block that a slot points to. -/
inductive FD where
  | val (d : Nat) (φ : Value → World → Prop)
  | put (d : Nat) (ψ : Nat → World → Prop)

def FD.slot? : FD → Option Nat
  | .val d _ => some d
  | .put _ _ => none

def valSlots (Fs : List FD) : List Nat := Fs.filterMap FD.slot?

/-- A fact on a value that growth and stores into the blocks of Fr keep. -/
def Stable (Fr : Nat → Prop) (φ : Value → World → Prop) : Prop := Mono φ ∧ ∀ v g w w', Fr g → Into g w w' → φ v w → φ v w'
/-- A fact on a block that growth and stores into other blocks keep. -/
def Local (ψ : Nat → World → Prop) : Prop := (∀ g w w', Below w.heap.size w w' → ψ g w → ψ g w') ∧ ∀ g g' w w', g' ≠ g → Into g' w w' → ψ g w → ψ g w'

def FD.good (Fr : Nat → Prop) : FD → Prop
  | .val _ φ => Stable Fr φ
  | .put _ ψ => Local ψ

def holds (p : FD) (f : Nat → Value) (w : World) : Prop := match p with
  | .val d φ => φ (f d) w
  | .put d ψ => ∃ b : Addr, f d = .pointer (some b) ∧ ψ b.block w

def HoldsAt (Fs : List FD) (i : Nat) (f : Nat → Value) (w : World) : Prop := match Fs[i]? with
  | some p => holds p f w
  | none => True

/-- Checked by running: each value's operation writes its own slot; each store's slot is one of S and no other store's. -/
def shapeB (ops : Array Oper) (Fs : List FD) (S : List Nat) (N : Nat) : Bool :=
  ops.size == Fs.length && (List.range Fs.length).all fun i => match ops[i]?, Fs[i]? with
    | some o, some (.val d _) => o.dst == some d && decide (d < N) && (List.range Fs.length).all fun j => j == i || match Fs[j]? with
      | some (.val e _) => e != d
      | _ => true
    | some o, some (.put d _) => o.dst == none && S.contains d && ((List.range Fs.length).all fun j => match Fs[j]? with
      | some (.val e _) => e != d || o.after.any fun x => Region.binds .any x && x.on == j
      | _ => true) && (List.range Fs.length).all fun j => j == i || match Fs[j]? with
      | some (.put e _) => e != d
      | _ => true
    | _, _ => false

/-- The slots of S point to blocks of Fr, each to its own. -/
structure SepB (Fr : Nat → Prop) (S : List Nat) (f : Nat → Value) (w : World) : Prop where
  ge : ∀ d b, S.contains d = true → f d = .pointer (some b) → Fr b.block
  lt : ∀ d b, S.contains d = true → f d = .pointer (some b) → b.block < w.heap.size
  ne : ∀ d e b c, S.contains d = true → S.contains e = true → d ≠ e → f d = .pointer (some b) → f e = .pointer (some c) → b.block ≠ c.block

/-- What running operation i must leave, the frame before it written out. -/
def Leaves (Fr : Nat → Prop) (Fs : List FD) (S : List Nat) (i : Nat) (base : Act) (w : World) (b : Act) (w' : World) : Prop := match Fs[i]? with
  | some (.val d φ) => ∃ v, b = base.put (some d) v ∧ φ v w' ∧ Below w.heap.size w w' ∧ (S.contains d = true → ∀ p, v = .pointer (some p) → Fr p.block ∧ w.heap.size ≤ p.block ∧ p.block < w'.heap.size)
  | some (.put d ψ) => b = base ∧ ∃ p : Addr, base.tmps.getD d undef = .pointer (some p) ∧ ψ p.block w' ∧ Into p.block w w'
  | none => False

section
variable {P : Program} {ops : Array Oper} {Q : Exit → Act → World → Prop}

theorem wp_region_put0 {id : Nat} {base : Act} {w0 : World} (Fr : Nat → Prop) (S : List Nat) (Fs : List FD) (Inv : World → Prop) (hm : P.follows .mixedOrders = true)
    (hback : backB .any ops = true) (hshape : shapeB ops Fs S base.tmps.size = true)
    (hgood : ∀ p ∈ Fs, p.good Fr) (hinv : ∀ w w', Below w.heap.size w w' → Inv w → Inv w') (hinv2 : ∀ g w w', Fr g → Into g w w' → Inv w → Inv w')
    (h0 : Inv w0.drew) (hsep : SepB Fr S (fun d => base.tmps.getD d undef) w0.drew)
    (run : ∀ i o, i < Fs.length → ops[i]? = some o → ∀ (a : Act) (w : World), SameBut (valSlots Fs) base a → Inv w → SepB Fr S (fun d => a.tmps.getD d undef) w →
      (∀ e ∈ o.after, Region.binds .any e = true → HoldsAt Fs e.on (fun d => a.tmps.getD d undef) w) →
      wpOp P ops Q i (Leaves Fr Fs S i a w) a w)
    (fin : ∀ (a : Act) (w : World), SameBut (valSlots Fs) base a → Inv w → SepB Fr S (fun d => a.tmps.getD d undef) w → (∀ i, i < Fs.length → HoldsAt Fs i (fun d => a.tmps.getD d undef) w) → Q .normal a w) :
    (Code.region id ops true).wp P Q base w0 := by
  have hb := back_of hback
  unfold shapeB at hshape
  rw [Bool.and_eq_true] at hshape
  have hsz : ops.size = Fs.length := by simpa using hshape.1
  have hsh := List.all_eq_true.1 hshape.2
  refine wp_region_facts (fun i a w => HoldsAt Fs i (fun d => a.tmps.getD d undef) w) (fun a w => SameBut (valSlots Fs) base a ∧ Inv w ∧ SepB Fr S (fun d => a.tmps.getD d undef) w) hm hback ⟨SameBut.refl _ _, h0, hsep⟩ ?_ ?_
  · intro i o ho L a w ⟨hsame, hI, hS⟩ hLi hdep hcl hF
    have hio : i < ops.size := (Array.getElem?_eq_some_iff.1 ho).1
    have hi : i < Fs.length := by omega
    refine wpOp_mono (fun a' w' hl => ?_) (run i o hi ho a w hsame hI hS fun e he hbe => hF e.on (by have := hb i o ho e he hbe; omega) (hdep e he hbe))
    have h1 := hsh i (List.mem_range.2 hi)
    rw [ho, List.getElem?_eq_getElem hi] at h1
    unfold Leaves at hl
    rw [List.getElem?_eq_getElem hi] at hl
    have hmem : Fs[i] ∈ Fs := List.getElem_mem hi
    cases hp : Fs[i] with
    | val d φ =>
      rw [hp] at h1 hl
      simp only [Bool.and_eq_true, beq_iff_eq, decide_eq_true_eq] at h1
      obtain ⟨⟨hdst, hdN⟩, huniq⟩ := h1
      obtain ⟨v, rfl, hv, hbel, hfr⟩ := hl
      have hda : d < a.tmps.size := by rw [hsame.size]; exact hdN
      have hcont : (valSlots Fs).contains d = true := by
        rw [List.contains_iff_mem]
        exact List.mem_filterMap.2 ⟨Fs[i], hmem, by rw [hp]; rfl⟩
      have hne : ∀ j e ψ, j ≠ i → Fs[j]? = some (.val e ψ) → e ≠ d := by
        intro j e ψ hj hq
        have hjn : j < Fs.length := (List.getElem?_eq_some_iff.1 hq).1
        have h2 := List.all_eq_true.1 huniq j (List.mem_range.2 hjn)
        rw [hq] at h2
        simpa [hj] using h2
      refine ⟨⟨hsame.put hcont v, hinv _ _ hbel hI, ?_⟩, ?_, ?_⟩
      · refine ⟨?_, ?_, ?_⟩
        · intro e b hSe he
          by_cases c : d = e
          · subst c
            simp only [getD_put a d v hda] at he
            exact (hfr hSe b he).1
          · simp only [getD_put_ne a d e v c] at he
            exact hS.ge e b hSe he
        · intro e b hSe he
          by_cases c : d = e
          · subst c
            simp only [getD_put a d v hda] at he
            exact (hfr hSe b he).2.2
          · simp only [getD_put_ne a d e v c] at he
            exact Nat.lt_of_lt_of_le (hS.lt e b hSe he) hbel.size
        · intro e e' b c hSe hSe' hne' he he'
          by_cases c1 : d = e
          · subst c1
            simp only [getD_put a d v hda] at he
            simp only [getD_put_ne a d e' v hne'] at he'
            have := (hfr hSe b he).2.1
            have := hS.lt e' c hSe' he'
            omega
          · simp only [getD_put_ne a d e v c1] at he
            by_cases c2 : d = e'
            · subst c2
              simp only [getD_put a d v hda] at he'
              have := (hfr hSe' c he').2.1
              have := hS.lt e b hSe he
              omega
            · simp only [getD_put_ne a d e' v c2] at he'
              exact hS.ne e e' b c hSe hSe' hne' he he'
      · show HoldsAt Fs i _ _
        unfold HoldsAt
        rw [List.getElem?_eq_getElem hi, hp]
        show φ _ _
        simp only [getD_put a d v hda]
        exact hv
      · intro j hj hLj
        have hji : j ≠ i := by intro c; subst c; rw [hLi] at hLj; cases hLj
        have hf := hF j hj hLj
        unfold HoldsAt at hf ⊢
        cases hq : Fs[j]? with
        | none => trivial
        | some q =>
          rw [hq] at hf
          have hg := hgood q (List.mem_of_getElem? hq)
          cases q with
          | val e φ' =>
            show φ' _ _
            simp only [getD_put_ne a d e v (Ne.symm (hne j e φ' hji hq))]
            exact hg.1 _ _ _ hbel hf
          | put e ψ =>
            obtain ⟨b, he, hψ⟩ := hf
            by_cases c : d = e
            · -- a store's slot that is written later: its shape forbids that
              subst c
              have hjn : j < Fs.length := (List.getElem?_eq_some_iff.1 hq).1
              have h3 := hsh j (List.mem_range.2 hjn)
              have hjo : j < ops.size := by omega
              rw [Array.getElem?_eq_getElem hjo, hq] at h3
              simp only [Bool.and_eq_true] at h3
              have h4 := List.all_eq_true.1 h3.1.2 i (List.mem_range.2 hi)
              rw [List.getElem?_eq_getElem hi, hp] at h4
              simp only [bne_self_eq_false, Bool.false_or] at h4
              obtain ⟨x, hx, hbx⟩ := Array.any_eq_true'.1 h4
              simp only [Bool.and_eq_true, beq_iff_eq] at hbx
              have h5 := hcl j _ (Array.getElem?_eq_getElem hjo) hLj x hx hbx.1
              rw [hbx.2, hLi] at h5
              cases h5
            · refine ⟨b, ?_, hg.1 _ _ _ hbel hψ⟩
              show (a.put (some d) v).tmps.getD e undef = _
              rw [getD_put_ne a d e v c]
              exact he
    | put d ψ =>
      rw [hp] at h1 hl
      simp only [Bool.and_eq_true, beq_iff_eq] at h1
      obtain ⟨⟨⟨hdst, hSd⟩, _⟩, huniq⟩ := h1
      obtain ⟨rfl, p, hpd, hψ, hinto⟩ := hl
      have hBp : Fr p.block := hS.ge d p hSd hpd
      refine ⟨⟨hsame, hinv2 _ _ _ hBp hinto hI, ?_⟩, ?_, ?_⟩
      · exact ⟨hS.ge, fun e b h2 h3 => by rw [hinto.size]; exact hS.lt e b h2 h3, hS.ne⟩
      · show HoldsAt Fs i _ _
        unfold HoldsAt
        rw [List.getElem?_eq_getElem hi, hp]
        exact ⟨p, hpd, hψ⟩
      · intro j hj hLj
        have hji : j ≠ i := by intro c; subst c; rw [hLi] at hLj; cases hLj
        have hf := hF j hj hLj
        unfold HoldsAt at hf ⊢
        cases hq : Fs[j]? with
        | none => trivial
        | some q =>
          rw [hq] at hf
          have hg := hgood q (List.mem_of_getElem? hq)
          have hjn : j < Fs.length := (List.getElem?_eq_some_iff.1 hq).1
          cases q with
          | val e φ' => exact hg.2 _ _ _ _ hBp hinto hf
          | put e ψ' =>
            obtain ⟨b, he, hψ'⟩ := hf
            have hed : e ≠ d := by
              have h2 := List.all_eq_true.1 huniq j (List.mem_range.2 hjn)
              rw [hq] at h2
              simpa [hji] using h2
            have hSe : S.contains e = true := by
              have h3 := hsh j (List.mem_range.2 hjn)
              rw [Array.getElem?_eq_getElem (by omega), hq] at h3
              simp only [Bool.and_eq_true] at h3
              exact h3.1.1.2
            exact ⟨b, he, hg.2 _ _ _ _ (hS.ne d e p b hSd hSe (Ne.symm hed) hpd he) hinto hψ'⟩
  · intro a w ⟨hsame, hI, hS⟩ hF
    exact fin a w hsame hI hS fun i hi => hF i (by omega)

theorem SameBut.mixed {slots : List Nat} {l : List Value} {df : List Deferred} {a : Act} (h : SameBut slots { tmps := l.toArray, defers := df } a) :
    a = { tmps := (mix slots (fun d => a.tmps.getD d undef) 0 l).toArray, defers := df } := by
  obtain ⟨hs, hd, hsl⟩ := h
  obtain ⟨t, d⟩ := a
  simp only at hs hd hsl ⊢
  subst hd
  congr 1
  apply Array.ext'
  apply List.ext_getElem?
  intro j
  rw [mix_get, Nat.zero_add]
  have hlen : t.toList.length = l.length := by simpa using hs
  by_cases hj : j < l.length
  · have hj' : j < t.size := by simpa using (hlen ▸ hj : j < t.toList.length)
    rw [List.getElem?_eq_getElem hj, List.getElem?_eq_getElem (by omega)]
    simp only [Option.map_some, Option.some.injEq]
    by_cases hc : slots.contains j = true
    · rw [if_pos hc]; simp [hj']
    · have hcf : slots.contains j = false := by simpa using hc
      have := hsl j hcf
      simp [hj', hj] at this
      rw [if_neg hc]; simp [this]
  · rw [List.getElem?_eq_none (by omega), List.getElem?_eq_none (by omega)]
    rfl

/-- THE REGION, the frame written out. -/
theorem wp_region_put {id : Nat} {l : List Value} {df : List Deferred} {w0 : World} (Fr : Nat → Prop) (S : List Nat) (Fs : List FD) (vs : List Nat) (hvs : valSlots Fs = vs) (Inv : World → Prop) (hm : P.follows .mixedOrders = true)
    (hback : backB .any ops = true) (hshape : shapeB ops Fs S l.length = true)
    (hgood : ∀ p ∈ Fs, p.good Fr) (hinv : ∀ w w', Below w.heap.size w w' → Inv w → Inv w') (hinv2 : ∀ g w w', Fr g → Into g w w' → Inv w → Inv w')
    (h0 : Inv w0.drew) (hsep : SepB Fr S (fun d => l.getD d undef) w0.drew)
    (run : ∀ i o, i < Fs.length → ops[i]? = some o → ∀ (f : Nat → Value) (w : World), (∀ d, vs.contains d = false → f d = l.getD d undef) → Inv w → SepB Fr S f w →
      (∀ e ∈ o.after, Region.binds .any e = true → HoldsAt Fs e.on f w) →
      wpOp P ops Q i (Leaves Fr Fs S i { tmps := (mix vs f 0 l).toArray, defers := df } w) { tmps := (mix vs f 0 l).toArray, defers := df } w)
    (fin : ∀ (f : Nat → Value) (w : World), (∀ d, vs.contains d = false → f d = l.getD d undef) → Inv w → SepB Fr S f w → (∀ i, i < Fs.length → HoldsAt Fs i f w) → Q .normal { tmps := (mix vs f 0 l).toArray, defers := df } w) :
    (Code.region id ops true).wp P Q { tmps := l.toArray, defers := df } w0 := by
  subst hvs
  have hl : ∀ d, (l.toArray.getD d undef) = l.getD d undef := fun d => by simp [Array.getD_eq_getD_getElem?, List.getD_eq_getElem?_getD]
  have hbase : ∀ (a : Act), SameBut (valSlots Fs) { tmps := l.toArray, defers := df } a → ∀ d, (valSlots Fs).contains d = false → a.tmps.getD d undef = l.getD d undef := fun a hs d hd => (hs.slot d hd).trans (hl d)
  refine wp_region_put0 Fr S Fs Inv hm hback (by simpa using hshape) hgood hinv hinv2 h0 ?_ ?_ ?_
  · have e : (fun d => ({ tmps := l.toArray, defers := df } : Act).tmps.getD d undef) = fun d => l.getD d undef := funext hl
    rw [e]
    exact hsep
  · intro i o hi ho a w hs hI hS hdep
    have h1 := run i o hi ho (fun d => a.tmps.getD d undef) w (hbase a hs) hI hS hdep
    rw [← hs.mixed] at h1
    exact h1
  · intro a w hs hI hS hF
    have h1 := fin (fun d => a.tmps.getD d undef) w (hbase a hs) hI hS hF
    rw [← hs.mixed] at h1
    exact h1

/-- A slot that points to the head of a block, and what its store has left there. -/
theorem put_at {f : Nat → Value} {d g : Nat} {w : World} {ψ : Nat → World → Prop} (e : f d = .pointer (some ⟨g, 0, none⟩)) (h : ∃ b : Addr, f d = .pointer (some b) ∧ ψ b.block w) : ψ g w := by
  obtain ⟨b, h1, h2⟩ := h
  rw [e] at h1
  cases h1
  exact h2

/-- No slot of S points anywhere yet. -/
theorem sepB_start {Fr : Nat → Prop} {S : List Nat} {l : List Value} {w : World} (hS : (S.all fun d => match l[d]? with | some (.pointer _) => false | _ => true) = true) :
    SepB Fr S (fun d => l.getD d undef) w := by
  have key : ∀ d b, S.contains d = true → l.getD d undef ≠ .pointer (some b) := by
    intro d b h1 h2
    have h3 := List.all_eq_true.1 hS d (List.contains_iff_mem.1 h1)
    by_cases hd : d < l.length
    · rw [List.getElem?_eq_getElem hd] at h3
      have h4 : l[d] = .pointer (some b) := by simpa [hd] using h2
      rw [h4] at h3
      cases h3
    · have h4 : (undef : Value) = .pointer (some b) := by simpa [hd] using h2
      cases h4
  exact ⟨fun d b h1 h2 => absurd h2 (key d b h1), fun d b h1 h2 => absurd h2 (key d b h1), fun d e b c h1 h2 hne h3 h4 => absurd h3 (key d b h1)⟩
end

end Go.Proofs.Ytpfijbgkhekjfaa.Fl
