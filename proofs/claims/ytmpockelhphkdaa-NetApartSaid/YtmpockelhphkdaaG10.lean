import Derived.Test.YtmpockelhphkdaaG9
/-! Walks by symbolic states: regions whose order is open. -/
set_option linter.unusedVariables false
set_option linter.unusedSimpArgs false
namespace Go.GL
open Go

section
variable {P : Program} {ops : Array Oper} {Q : Exit → Act → World → Prop} {S : World → Prop} {fin : Nat → Bool}

/-- No final operation has come up. -/
def NF (fin : Nat → Bool) (listed : Array Bool) : Prop := ∀ j, fin j = true → listed.getD j false = false
theorem NF.set {fin : Nat → Bool} {listed : Array Bool} (h : NF fin listed) {i : Nat} (hi : fin i = false) : NF fin (listed.setIfInBounds i true) := by
  intro j hj
  have hne : i ≠ j := fun e => by rw [e, hj] at hi; cases hi
  have := h j hj
  simp only [Array.getD_eq_getD_getElem?, Array.getElem?_setIfInBounds, if_neg hne] at this ⊢
  exact this
theorem NF.unset {fin : Nat → Bool} {listed : Array Bool} {i : Nat} (h : NF fin (listed.setIfInBounds i true)) : NF fin listed := by
  intro j hj
  have := h j hj
  simp only [Array.getD_eq_getD_getElem?, Array.getElem?_setIfInBounds] at this ⊢
  by_cases hne : i = j
  · subst hne
    by_cases hl : i < listed.size
    · rw [if_pos rfl, if_pos hl] at this; cases this
    · rw [Array.getElem?_eq_none (by omega)]; rfl
  · rw [if_neg hne] at this; exact this

/-- Whatever order is picked: behind every operation, but for the final ones, S holds. -/
def anyF (P : Program) (ops : Array Oper) (Q : Exit → Act → World → Prop) (S : World → Prop) (fin : Nat → Bool) : Nat → Array Bool → Act → World → Prop
  | 0, listed, a, w => Region.ready .any ops listed = [] ∧ Q .normal a w
  | fuel + 1, listed, a, w =>
    (Region.ready .any ops listed = [] → Q .normal a w) ∧
    ∀ i ∈ Region.ready .any ops listed, wpOp P ops Q i (fun a' w' => (NF fin listed → fin i = false → S w') ∧ anyF P ops Q S fin fuel (listed.setIfInBounds i true) a' w') a w

theorem anyF_any : ∀ (fuel : Nat) (listed : Array Bool) (a : Act) (w : World), anyF P ops Q S fin fuel listed a w → wpAny P .any ops Q fuel listed a w
  | 0, _, _, _, h => h
  | fuel + 1, _, _, _, h => ⟨h.1, fun i hi => wpOp_mono (fun a' w' h' => anyF_any fuel _ a' w' h'.2) (h.2 i hi)⟩

/-- An operation that is ready, and yields wherever S holds, may be taken first; the final ones wait for it. -/
theorem anyF_first {i : Nat} {oi : Oper} {v : Value} (hi : ops[i]? = some oi) (hsel : ∀ (j : Nat) (o : Oper) cs b, ops[j]? = some o → o.op ≠ .select cs b)
    (hQ : ∀ c a w, Q (.panic c) (a.put oi.dst v) w → Q (.panic c) a w) (hfi : fin i = false)
    (hfin : ∀ j oj, ops[j]? = some oj → fin j = true → ∃ e ∈ oj.after, Region.binds .any e = true ∧ e.on = i) :
    ∀ (fuel : Nat) (listed : Array Bool) (a : Act) (w : World), NF fin listed →
      (∀ j oj, ops[j]? = some oj → j ≠ i → listed.getD j true = false → (∀ e ∈ oj.after, Region.binds .any e = true → e.on ≠ i) → oi.apart ops oj = true) →
      i ∈ Region.ready .any ops listed → YieldsIf P ops S oi v a → S w →
      anyF P ops Q S fin fuel (listed.setIfInBounds i true) (a.put oi.dst v) w → anyF P ops Q S fin (fuel + 1) listed a w := by
  intro fuel
  induction fuel with
  | zero =>
    intro listed a w hnf _ hr hy hS H
    refine ⟨fun h => (by rw [h] at hr; cases hr), fun j hj => ?_⟩
    by_cases hji : j = i
    · subst hji; exact hy.wpOp hi hS ⟨fun _ _ => hS, H⟩
    · have := ready_mono hj hji
      rw [H.1] at this
      cases this
  | succ fuel ih =>
    intro listed a w hnf hfree hr hy hS H
    refine ⟨fun h => (by rw [h] at hr; cases hr), fun j hj => ?_⟩
    by_cases hji : j = i
    · subst hji; exact hy.wpOp hi hS ⟨fun _ _ => hS, H⟩
    · obtain ⟨hjun, oj, hoj, hall⟩ := mem_ready.1 hj
      have hnot : ∀ e ∈ oj.after, Region.binds .any e = true → e.on ≠ i := fun e he hb heq => by
        have h1 := hall e he hb
        have h0 := (mem_ready.1 hr).1
        rw [heq] at h1
        rcases Nat.lt_or_ge i listed.size with h' | h'
        · simp [h'] at h0 h1; rw [h0] at h1; cases h1
        · simp [Array.getElem?_eq_none h'] at h1
      have hfj : fin j = false := by
        cases hc : fin j with
        | false => rfl
        | true =>
          obtain ⟨e, he, hb, hon⟩ := hfin j oj hoj hc
          exact absurd hon (hnot e he hb)
      have h2 := wpOp_putIf hoj (hfree j oj hoj hji hjun hnot) (fun cs b => hsel i oi cs b hi) (fun cs b => hsel j oj cs b hoj) hQ hy (H.2 j (ready_mono hj hji))
      have hfree' : ∀ k ok, ops[k]? = some ok → k ≠ i → (listed.setIfInBounds j true).getD k true = false →
          (∀ e ∈ ok.after, Region.binds .any e = true → e.on ≠ i) → oi.apart ops ok = true := fun k ok hk hki hun hno => by
        refine hfree k ok hk hki ?_ hno
        by_cases hjk : j = k
        · subst hjk; exact hjun
        · rw [getD_set_ne true hjk] at hun; exact hun
      refine wpOp_mono (fun a' w' h3 => ⟨fun _ => h3.2.1 (hnf.set hfi), ih (listed.setIfInBounds j true) a' w' (hnf.set hfj) hfree' (ready_mono hr (Ne.symm hji)) h3.1 (h3.2.1 (hnf.set hfi) hfj) ?_⟩) h2
      rw [Array.setIfInBounds_comm _ _ hji]
      exact h3.2.2

/-- An operation that is ready, and yields in whatever world, may be taken first. -/
theorem anyF_firstP {i : Nat} {oi : Oper} {v : Value} (hi : ops[i]? = some oi) (hsel : ∀ (j : Nat) (o : Oper) cs b, ops[j]? = some o → o.op ≠ .select cs b)
    (hQ : ∀ c a w, Q (.panic c) (a.put oi.dst v) w → Q (.panic c) a w) (hfi : fin i = false) :
    ∀ (fuel : Nat) (listed : Array Bool) (a : Act) (w : World),
      (∀ j oj, ops[j]? = some oj → j ≠ i → listed.getD j true = false → (∀ e ∈ oj.after, Region.binds .any e = true → e.on ≠ i) → oi.apart ops oj = true) →
      i ∈ Region.ready .any ops listed → YieldsIf P ops (fun _ => True) oi v a → (NF fin listed → S w) →
      anyF P ops Q S fin fuel (listed.setIfInBounds i true) (a.put oi.dst v) w → anyF P ops Q S fin (fuel + 1) listed a w := by
  intro fuel
  induction fuel with
  | zero =>
    intro listed a w _ hr hy hS H
    refine ⟨fun h => (by rw [h] at hr; cases hr), fun j hj => ?_⟩
    by_cases hji : j = i
    · subst hji; exact hy.wpOp hi trivial ⟨fun h _ => hS h, H⟩
    · have := ready_mono hj hji
      rw [H.1] at this
      cases this
  | succ fuel ih =>
    intro listed a w hfree hr hy hS H
    refine ⟨fun h => (by rw [h] at hr; cases hr), fun j hj => ?_⟩
    by_cases hji : j = i
    · subst hji; exact hy.wpOp hi trivial ⟨fun h _ => hS h, H⟩
    · obtain ⟨hjun, oj, hoj, hall⟩ := mem_ready.1 hj
      have hnot : ∀ e ∈ oj.after, Region.binds .any e = true → e.on ≠ i := fun e he hb heq => by
        have h1 := hall e he hb
        have h0 := (mem_ready.1 hr).1
        rw [heq] at h1
        rcases Nat.lt_or_ge i listed.size with h' | h'
        · simp [h'] at h0 h1; rw [h0] at h1; cases h1
        · simp [Array.getElem?_eq_none h'] at h1
      have h2 := wpOp_putIf hoj (hfree j oj hoj hji hjun hnot) (fun cs b => hsel i oi cs b hi) (fun cs b => hsel j oj cs b hoj) hQ hy (H.2 j (ready_mono hj hji))
      have hfree' : ∀ k ok, ops[k]? = some ok → k ≠ i → (listed.setIfInBounds j true).getD k true = false →
          (∀ e ∈ ok.after, Region.binds .any e = true → e.on ≠ i) → oi.apart ops ok = true := fun k ok hk hki hun hno => by
        refine hfree k ok hk hki ?_ hno
        by_cases hjk : j = k
        · subst hjk; exact hjun
        · rw [getD_set_ne true hjk] at hun; exact hun
      have hfj : NF fin (listed.setIfInBounds j true) → fin j = false := fun hn => by
        cases hc : fin j with
        | false => rfl
        | true =>
          have := hn j hc
          have hl := (mem_ready.1 hj).1
          rcases Nat.lt_or_ge j listed.size with h' | h'
          · simp only [Array.getD_eq_getD_getElem?, Array.getElem?_setIfInBounds, if_true, if_pos h'] at this; cases this
          · rw [Array.getD_eq_getD_getElem?, Array.getElem?_eq_none (by omega)] at hl; cases hl
      refine wpOp_mono (fun a' w' h3 => ⟨fun hn => h3.2.1 (hn.set hfi), ih (listed.setIfInBounds j true) a' w' hfree' (ready_mono hr (Ne.symm hji)) h3.1 (fun hn => h3.2.1 (hn.unset.set hfi) (hfj hn)) ?_⟩) h2
      rw [Array.setIfInBounds_comm _ _ hji]
      exact h3.2.2

theorem OpX.wpOp {i : Nat} {X : List Value → World → Prop} {l : List Value} {w : World} {K : Act → World → Prop} (h : OpX P ops i X l w) (hK : ∀ l' w', X l' w' → K ⟨⟨l'⟩, []⟩ w') :
    Go.wpOp P ops Q i K ⟨⟨l⟩, []⟩ w := by
  obtain ⟨q, hq, hw, hh⟩ := h
  have hput : ∀ v, (⟨⟨l⟩, []⟩ : Act).put q.dst v = ⟨⟨putL l q.dst v⟩, []⟩ := by
    intro v; cases q.dst <;> simp [Act.put, putL]
  unfold Go.wpOp
  simp only [hq]
  rw [if_pos hw]
  left
  unfold Oper.wp
  rcases hh with ⟨v, w', hrun | ⟨hrun, rfl⟩, hX⟩ | ⟨g, args, hrun, hc⟩
  · rw [hrun, Oper.upon_value, hput]; exact hK _ _ hX
  · rw [hrun, Oper.upon_skip, hput]; exact hK _ _ hX
  · rw [hrun, Oper.upon_enter]
    refine hc.mono ?_
    rintro e w' ⟨v, rfl, hX⟩
    simp only [hput]
    exact hK _ _ hX
end

section
variable {ρ : Type} {C : Cx ρ} {env env' : Env} {H H' H0 : List Bx} {B B' B0 : List Fct} {k : List Item} {o o' : Option ρ} {ops : Array Oper} {rest : List Nat} {i : Nat} {fin : List Nat}

def inFin (fin : List Nat) (i : Nat) : Bool := match noTag i fin with | true => false | false => true

/-- What holds all through a region: these blocks and rows are as they were. -/
def Inv (H0 : List Bx) (B0 : List Fct) (w : World) : Prop := ∃ S, HOk H0 w S ∧ BOk B0 w S

def QF (C : Cx ρ) (r : ρ) (k : List Item) : Exit → Act → World → Prop := fun e a w => e = .normal ∧ ∃ l, a = ⟨⟨l⟩, []⟩ ∧ Runs C.P C.f k l w (Post C r)

/-- Within a region whose order is open: 'listed' have come up. -/
def GoF (C : Cx ρ) (ops : Array Oper) (fin : List Nat) (H0 : List Bx) (B0 : List Fct) (k : List Item) (fuel : Nat) (listed : List Bool) (env : Env) (H : List Bx) (B : List Fct) (o : Option ρ) : Prop :=
  ∀ r, o = some r → ∀ l w S, Sat C env H B l w S → anyF C.P ops (QF C r k) (Inv H0 B0) (inFin fin) fuel ⟨listed⟩ ⟨⟨l⟩, []⟩ w

theorem GoF.stop {fuel : Nat} {listed : List Bool} : GoF C ops fin H0 B0 k fuel listed env H B (none : Option ρ) := fun _ h => by cases h
theorem GoF.guard {p : Prop} [Decidable p] {fuel : Nat} {listed : List Bool} (ht : p → GoF C ops fin H0 B0 k fuel listed env H B o) : GoF C ops fin H0 B0 k fuel listed env H B (if p then o else Option.none) := by
  by_cases h : p
  · rw [if_pos h]; exact ht h
  · rw [if_neg h]; exact GoF.stop

/-- Entering: every operation is to come. -/
theorem GoO.draw {c : Code} {id n : Nat} (h : c = .region id ops true) (hm : C.P.follows .mixedOrders = true) (fin : List Nat) (H0 : List Bx) (B0 : List Fct) (hn : Nat.beq ops.size n = true)
    (g : GoF C ops fin H0 B0 k n (List.replicate n false) env H B o) : GoO C env H B (.code c :: k) o := by
  subst h
  intro r hr l w S hs b cs hb hk
  have hn := Nat.eq_of_beq_eq_true hn
  have hs' : Sat C env H B l { w with drawn := w.drawn + 1 } S := ⟨hs.wf, ⟨hs.ext.size, hs.ext.same, ⟨hs.ext.good.bd, hs.ext.good.dj⟩, hs.ext.old, hs.ext.grow0, hs.ext.out, hs.ext.os, hs.ext.tape⟩, hs.len, hs.env, fun x hx => hs.hs x hx, fun f hf => f.q.st (w := w) (fun b hb _ => ⟨rfl, hb⟩) (fun b hb _ => ⟨rfl, hb⟩) (hs.bs f hf)⟩
  have ha := anyF_any _ _ _ _ (g r hr l _ S hs')
  have hl : (⟨List.replicate n false⟩ : Array Bool) = Array.replicate ops.size false := by rw [hn]; apply Array.ext'; simp
  rw [hl, ← hn] at ha
  obtain ⟨e, a', w', ⟨rfl, l', rfl, hruns⟩, harr⟩ := wp_region_any (id := id) hm ha b k cs
  obtain ⟨e, w'', fr, h1, h2, h3, h4⟩ := hruns b cs hb hk
  exact ⟨e, w'', fr, h1, Comes.of_steps harr h2, h3, h4⟩

/-- Leaving: all have come up. -/
theorem GoF.done {fuel : Nat} {listed : List Bool} (hr : Region.ready .any ops ⟨listed⟩ = []) (g : GoO C env H B k o) : GoF C ops fin H0 B0 k fuel listed env H B o := by
  intro r hro l w S hs
  have hq : QF C r k .normal ⟨⟨l⟩, []⟩ w := ⟨rfl, l, rfl, g r hro l w S hs⟩
  cases fuel with
  | zero => exact ⟨hr, hq⟩
  | succ n => exact ⟨fun _ => hq, fun i hi => by rw [hr] at hi; cases hi⟩

/-- The one operation that is ready is carried out, by its rule. -/
theorem OpTo.goF {fuel : Nat} {listed : List Bool} (hr : Region.ready .any ops ⟨listed⟩ = [i]) {hk bk : List Nat}
    (h : OpTo C ops i env H B o fun env' H' B' o' => picks H' hk = some H0 ∧ picks B' bk = some B0 ∧ GoF C ops fin H0 B0 k fuel (listed.set i true) env' H' B' o') :
    GoF C ops fin H0 B0 k (fuel + 1) listed env H B o := by
  intro r hro l w S hs
  refine ⟨fun h0 => (by rw [hr] at h0; cases h0), fun j hj => ?_⟩
  rw [hr] at hj
  simp at hj
  subst hj
  have hl : (⟨listed⟩ : Array Bool).setIfInBounds j true = ⟨listed.set j true⟩ := by simp
  rw [hl]
  refine (h r hro l w S hs (fun l' w' => (NF (inFin fin) ⟨listed⟩ → inFin fin j = false → Inv H0 B0 w') ∧ anyF C.P ops (QF C r k) (Inv H0 B0) (inFin fin) fuel ⟨listed.set j true⟩ ⟨⟨l'⟩, []⟩ w') ?_).wpOp fun l' w' hX => hX
  intro env' H' B' o' l' w' S' ⟨h1, h2, g⟩ ho hs'
  exact ⟨fun _ hf => ⟨S', fun x hx => hs'.hs x (picks_mem h1 x hx), fun x hx => hs'.bs x (picks_mem h2 x hx)⟩, g r ho l' w' S' hs'⟩

/-- .. a final one. -/
theorem OpTo.goE {fuel : Nat} {listed : List Bool} (hr : Region.ready .any ops ⟨listed⟩ = [i]) (hf : inFin fin i = true)
    (h : OpTo C ops i env H B o fun env' H' B' o' => GoF C ops fin H0 B0 k fuel (listed.set i true) env' H' B' o') :
    GoF C ops fin H0 B0 k (fuel + 1) listed env H B o := by
  intro r hro l w S hs
  refine ⟨fun h0 => (by rw [hr] at h0; cases h0), fun j hj => ?_⟩
  rw [hr] at hj
  simp at hj
  subst hj
  have hl : (⟨listed⟩ : Array Bool).setIfInBounds j true = ⟨listed.set j true⟩ := by simp
  rw [hl]
  refine (h r hro l w S hs (fun l' w' => (NF (inFin fin) ⟨listed⟩ → inFin fin j = false → Inv H0 B0 w') ∧ anyF C.P ops (QF C r k) (Inv H0 B0) (inFin fin) fuel ⟨listed.set j true⟩ ⟨⟨l'⟩, []⟩ w') ?_).wpOp fun l' w' hX => hX
  intro env' H' B' o' l' w' S' g ho hs'
  exact ⟨fun _ h0 => (by rw [hf] at h0; cases h0), g r ho l' w' S' hs'⟩

/-- One operation that only computes, or loads from a block that stays as it is: its value. -/
def qv (P : Program) (ops : Array Oper) (H0 : List Bx) (i : Nat) (hint : Hint) (env : Env) : Option (Option Tmp × Value × List Prop) :=
  match ops[i]? with
  | none => none
  | some q => match wantedE ops env q with
    | none => none
    | some false => some (q.dst, undef, [])
    | some true => match hint with
      | .p => match exV P env q.op with
        | some (v, ps) => some (q.dst, v, ps)
        | none => none
      | .b j => match H0[j]? with
        | none => none
        | some x => match q.op with
          | .load t a => match evalE env a with
            | some (.pointer (some ⟨b, off, none⟩)) => match loadBx P t x.cs off with
              | some v => some (q.dst, v, [b = x.b])
              | none => none
            | _ => none
          | _ => none

theorem qv_ok {P : Program} {hint : Hint} {d : Option Tmp} {v : Value} {ps : List Prop} (h : qv P ops H0 i hint env = some (d, v, ps)) (hp : AllP ps) {l : List Value} (he : EnvOk env l) :
    ∃ q, ops[i]? = some q ∧ q.dst = d ∧ YieldsIf P ops (Inv H0 B0) q v ⟨⟨l⟩, []⟩ := by
  unfold qv at h
  split at h
  · cases h
  · rename_i q hq
    refine ⟨q, hq, ?_⟩
    split at h
    · cases h
    · rename_i hw; cases h
      exact ⟨rfl, .inr ⟨wantedE_ok he hw, rfl⟩⟩
    · rename_i hw
      split at h
      · split at h
        · rename_i hv; cases h
          exact ⟨rfl, .inl ⟨wantedE_ok he hw, fun w _ => exV_ok he hv hp w⟩⟩
        · cases h
      · split at h
        · cases h
        · rename_i x hx
          split at h
          · rename_i t a hop
            split at h
            · rename_i b off ha
              split at h
              · rename_i v' hv; cases h
                refine ⟨rfl, .inl ⟨wantedE_ok he hw, fun w ⟨S, hH, _⟩ => ?_⟩⟩
                obtain ⟨_, T, hb⟩ := hH x (List.mem_of_getElem? hx)
                have := loadBx_ok hv hb
                simp only [AllP] at hp
                rw [← hp.1] at this
                simp [execOp, hop, evalE_ok he ha, this]
              · cases h
            · cases h
          · cases h

theorem qv_okP {P : Program} {d : Option Tmp} {v : Value} {ps : List Prop} (h : qv P ops H0 i .p env = some (d, v, ps)) (hp : AllP ps) {l : List Value} (he : EnvOk env l) :
    ∃ q, ops[i]? = some q ∧ q.dst = d ∧ YieldsIf P ops (fun _ => True) q v ⟨⟨l⟩, []⟩ := by
  unfold qv at h
  split at h
  · cases h
  · rename_i q hq
    refine ⟨q, hq, ?_⟩
    split at h
    · cases h
    · rename_i hw; cases h
      exact ⟨rfl, .inr ⟨wantedE_ok he hw, rfl⟩⟩
    · rename_i hw
      simp only at h
      split at h
      · rename_i hv; cases h
        exact ⟨rfl, .inl ⟨wantedE_ok he hw, fun w _ => exV_ok he hv hp w⟩⟩
      · cases h

/-- Has no final operation come up? -/
def noneFin (fin : List Nat) (listed : List Bool) : Bool := fin.all fun j => !(listed.getD j false)
theorem noneFin_ok {fin : List Nat} {listed : List Bool} (h : noneFin fin listed = true) : NF (inFin fin) ⟨listed⟩ := by
  intro j hj
  unfold inFin at hj
  split at hj
  · cases hj
  · rename_i hn
    have := List.all_eq_true.1 h j (mem_of_noTag hn)
    simp at this
    simp [Array.getD_eq_getD_getElem?, this]
def isP : Hint → Bool
  | .p => true
  | .b _ => false
/-- Does every final operation wait for i? -/
def finWaits (ops : Array Oper) (fin : List Nat) (i : Nat) : Bool :=
  fin.all fun j => match ops[j]? with
    | some q => q.after.any fun e => Region.binds .any e && Nat.beq e.on i
    | none => true

/-- Taken first, one after another. -/
def takeN (P : Program) (n : Nat) (ops : Array Oper) (fin : List Nat) (H0 : List Bx) : List Nat → List Hint → Nat → List Bool → Env → Option (Nat × List Bool × Env × List Prop)
  | i :: is, h :: hs, fuel + 1, listed, env =>
    match Region.noSelect ops && Region.free .any ops ⟨listed⟩ i && (Region.ready .any ops ⟨listed⟩).contains i && (isP h || noneFin fin listed && finWaits ops fin i) && !(inFin fin i) with
    | false => none
    | true => match qv P ops H0 i h env with
      | none => none
      | some (d, v, ps) => match putE n env d v with
        | none => none
        | some env' => match takeN P n ops fin H0 is hs fuel (listed.set i true) env' with
          | some (fu, li, en, qs) => some (fu, li, en, ps ++ qs)
          | none => none
  | _, _, fuel, listed, env => some (fuel, listed, env, [])

theorem putE_dst {n : Nat} {d : Option Tmp} {v : Value} (h : putE n env d v = some env') {l : List Value} : (⟨⟨l⟩, []⟩ : Act).put d v = ⟨⟨putL l d v⟩, []⟩ := by
  cases d <;> simp [Act.put, putL]

theorem GoF.takes {fu : Nat} {li : List Bool} : ∀ {is : List Nat} {hs : List Hint} {fuel : Nat} {listed : List Bool} {env : Env} {ps : List Prop}, takeN C.P C.n ops fin H0 is hs fuel listed env = some (fu, li, env', ps) → AllP ps →
    (NF (inFin fin) ⟨listed⟩ → ∀ {w S}, HOk H w S → BOk B w S → Inv H0 B0 w) → GoF C ops fin H0 B0 k fu li env' H B o → GoF C ops fin H0 B0 k fuel listed env H B o
  | [], hs, fuel, listed, env, ps, h, _, _, g => by cases hs <;> cases fuel <;> (simp only [takeN] at h; cases h; exact g)
  | i :: is, [], fuel, listed, env, ps, h, _, _, g => by cases fuel <;> (simp only [takeN] at h; cases h; exact g)
  | i :: is, q :: hs, 0, listed, env, ps, h, _, _, g => by simp only [takeN] at h; cases h; exact g
  | i :: is, q :: hs, fuel + 1, listed, env, ps, h, hp, hinv, g => by
    simp only [takeN] at h
    split at h
    · cases h
    · rename_i hc
      simp only [Bool.and_eq_true, Bool.or_eq_true, Bool.not_eq_true'] at hc
      obtain ⟨⟨⟨⟨c1, c2⟩, c3⟩, c45⟩, c5⟩ := hc
      split at h
      · cases h
      · rename_i d v ps1 hq
        split at h
        · cases h
        · rename_i env1 hput
          split at h
          · rename_i fu' li' en' qs hrest
            cases h
            obtain ⟨hp1, hp2⟩ := AllP.app.1 hp
            have ih := GoF.takes hrest hp2 (fun hn => hinv (by have := hn; rw [show (⟨listed.set i true⟩ : Array Bool) = (⟨listed⟩ : Array Bool).setIfInBounds i true by simp] at this; exact this.unset)) g
            intro r hro l w S hs'
            obtain ⟨e1, e2⟩ := putE_ok hput hs'.len hs'.env
            rcases c45 with cp | ⟨cn, c4⟩
            · have hqp : q = .p := by cases q; rfl; cases cp
              subst hqp
              obtain ⟨qq, hqq, hd, hy⟩ := qv_okP hq hp1 hs'.env
              have hput' : (⟨⟨l⟩, []⟩ : Act).put qq.dst v = ⟨⟨putL l d v⟩, []⟩ := by rw [hd]; exact putE_dst hput
              have hset : (⟨listed⟩ : Array Bool).setIfInBounds i true = ⟨listed.set i true⟩ := by simp
              refine anyF_firstP hqq (Region.noSelect_spec c1) (fun c a w hh => by cases hh.1) c5 fuel ⟨listed⟩ ⟨⟨l⟩, []⟩ w (Region.free_spec hqq c2) (by simpa using c3) hy (fun hn => hinv hn hs'.hs hs'.bs) ?_
              rw [hset, hput']
              exact ih r hro (putL l d v) w S ⟨hs'.wf, hs'.ext, e2, e1, hs'.hs, hs'.bs⟩
            obtain ⟨qq, hqq, hd, hy⟩ := qv_ok (B0 := B0) hq hp1 hs'.env
            have hput' : (⟨⟨l⟩, []⟩ : Act).put qq.dst v = ⟨⟨putL l d v⟩, []⟩ := by rw [hd]; exact putE_dst hput
            have hset : (⟨listed⟩ : Array Bool).setIfInBounds i true = ⟨listed.set i true⟩ := by simp
            refine anyF_first hqq (Region.noSelect_spec c1) (fun c a w hh => by cases hh.1) c5 ?_ fuel ⟨listed⟩ ⟨⟨l⟩, []⟩ w (noneFin_ok cn) (Region.free_spec hqq c2) (by simpa using c3) hy (hinv (noneFin_ok cn) hs'.hs hs'.bs) ?_
            · intro j oj hj hfj
              unfold inFin at hfj
              split at hfj
              · cases hfj
              · rename_i hn
                have hm := mem_of_noTag hn
                have := List.all_eq_true.1 c4 j hm
                rw [hj] at this
                simp only [Array.any_eq_true'] at this
                obtain ⟨e, he, hb⟩ := this
                simp only [Bool.and_eq_true] at hb
                exact ⟨e, he, hb.1, Nat.eq_of_beq_eq_true hb.2⟩
            · rw [hset, hput']
              exact ih r hro (putL l d v) w S ⟨hs'.wf, hs'.ext, e2, e1, hs'.hs, hs'.bs⟩
          · cases h

def takeS (P : Program) (n : Nat) (ops : Array Oper) (fin : List Nat) (H0 : List Bx) (is : List Nat) (hs : List Hint) (fuel : Nat) (listed : List Bool) (env : Env) (ks : List Nat) : Option (Nat × List Bool × Env × List Prop) :=
  match takeN P n ops fin H0 is hs fuel listed env with
  | some (fu, li, en, ps) => match looks ks en with
    | some e => some (fu, li, e, ps)
    | none => none
  | none => none

/-- .. the facts at hand being those that hold all through. -/
theorem GoF.take {fuel fu : Nat} {listed li : List Bool} {ps : List Prop} {hk bk ks : List Nat} (is : List Nat) (hs : List Hint) (h : takeS C.P C.n ops fin H0 is hs fuel listed env ks = some (fu, li, env', ps)) (hp : AllP ps)
    (hH : picks H hk = some H0) (hB : picks B bk = some B0) (g : GoF C ops fin H0 B0 k fu li env' H B o) : GoF C ops fin H0 B0 k fuel listed env H B o := by
  unfold takeS at h
  split at h
  · rename_i fu' li' en ps' h1
    split at h
    · rename_i e he
      cases h
      exact GoF.takes h1 hp (fun _ {w S} h1 h2 => ⟨S, fun x hx => h1 x (picks_mem hH x hx), fun x hx => h2 x (picks_mem hB x hx)⟩)
        (fun r hr l w S hs => g r hr l w S ⟨hs.wf, hs.ext, hs.len, fun t v h => hs.env t v (looks_ok he t v h), hs.hs, hs.bs⟩)
    · cases h
  · cases h

/-- .. a final one having come up: operations that only compute. -/
theorem GoF.takeQ {fuel fu : Nat} {listed li : List Bool} {ps : List Prop} {ks : List Nat} (is : List Nat) (hs : List Hint) (h : takeS C.P C.n ops fin H0 is hs fuel listed env ks = some (fu, li, env', ps)) (hp : AllP ps)
    (hn : (fin.any fun j => listed.getD j false) = true) (g : GoF C ops fin H0 B0 k fu li env' H B o) : GoF C ops fin H0 B0 k fuel listed env H B o := by
  unfold takeS at h
  split at h
  · rename_i fu' li' en ps' h1
    split at h
    · rename_i e he
      cases h
      refine GoF.takes h1 hp (fun hnf {w S} _ _ => ?_)
        (fun r hr l w S hs => g r hr l w S ⟨hs.wf, hs.ext, hs.len, fun t v h => hs.env t v (looks_ok he t v h), hs.hs, hs.bs⟩)
      obtain ⟨j, hj, hl⟩ := List.any_eq_true.1 hn
      have hin : inFin fin j = true := by
        unfold inFin
        split
        · rename_i hnn; exact absurd rfl (noTag_ok hnn j hj)
        · rfl
      have := hnf j hin
      rw [Array.getD_eq_getD_getElem?] at this
      simp at this
      rw [List.getD_eq_getElem?_getD] at hl
      rw [this] at hl
      cases hl
    · cases h
  · cases h

/-- May i be taken first? -/
def canTake (ops : Array Oper) (fin : List Nat) (listed : List Bool) (i : Nat) : Bool :=
  Region.noSelect ops && Region.free .any ops ⟨listed⟩ i && (Region.ready .any ops ⟨listed⟩).contains i && (noneFin fin listed && finWaits ops fin i) && !(inFin fin i)

theorem GoF.take1 {fuel : Nat} {listed : List Bool} {hk bk : List Nat} {op : Op} {d : Option Tmp} {ty : TypeId} {v : Value} (hc : canTake ops fin listed i = true) (hop : opAt ops i env = some (op, d, ty))
    (hH : picks H hk = some H0) (hB : picks B bk = some B0)
    (hy : ∀ l, EnvOk env l → ∀ w S, HOk H0 w S → BOk B0 w S → ∀ q : Oper, q.op = op → q.type = ty → (execOp (Act.eval ⟨⟨l⟩, []⟩) q).run C.P w = .ok (.value v) w)
    (hput : putE C.n env d v = some env') (g : GoF C ops fin H0 B0 k fuel (listed.set i true) env' H B o) : GoF C ops fin H0 B0 k (fuel + 1) listed env H B o := by
  intro r hro l w S hs'
  unfold canTake at hc
  simp only [Bool.and_eq_true, Bool.not_eq_true'] at hc
  obtain ⟨⟨⟨⟨c1, c2⟩, c3⟩, ⟨cn, c4⟩⟩, c5⟩ := hc
  obtain ⟨q, hqq, hw, e1, e2, e3⟩ := opAt_ok hop
  have hinv : Inv H0 B0 w := ⟨S, fun x hx => hs'.hs x (picks_mem hH x hx), fun x hx => hs'.bs x (picks_mem hB x hx)⟩
  have hyi : YieldsIf C.P ops (Inv H0 B0) q v ⟨⟨l⟩, []⟩ := .inl ⟨wantedE_ok hs'.env hw, fun w ⟨S, h1, h2⟩ => hy l hs'.env w S h1 h2 q e1 e3⟩
  obtain ⟨p1, p2⟩ := putE_ok hput hs'.len hs'.env
  have hput' : (⟨⟨l⟩, []⟩ : Act).put q.dst v = ⟨⟨putL l d v⟩, []⟩ := by rw [e2]; exact putE_dst hput
  have hset : (⟨listed⟩ : Array Bool).setIfInBounds i true = ⟨listed.set i true⟩ := by simp
  refine anyF_first hqq (Region.noSelect_spec c1) (fun c a w hh => by cases hh.1) c5 ?_ fuel ⟨listed⟩ ⟨⟨l⟩, []⟩ w (noneFin_ok cn) (Region.free_spec hqq c2) (by simpa using c3) hyi hinv ?_
  · intro j oj hj hfj
    unfold inFin at hfj
    split at hfj
    · cases hfj
    · rename_i hn
      have hm := mem_of_noTag hn
      have := List.all_eq_true.1 c4 j hm
      rw [hj] at this
      simp only [Array.any_eq_true'] at this
      obtain ⟨e, he, hb⟩ := this
      simp only [Bool.and_eq_true] at hb
      exact ⟨e, he, hb.1, Nat.eq_of_beq_eq_true hb.2⟩
  · rw [hset, hput']
    exact g r hro (putL l d v) w S ⟨hs'.wf, hs'.ext, p2, p1, hs'.hs, hs'.bs⟩

/-- &xs[i], taken first. -/
theorem GoF.idx {fuel : Nat} {listed : List Bool} {hk bk : List Nat} {α : Type} {t : TypeId} {x y : Operand} {d : Option Tmp} {ty e : TypeId} (hc : canTake ops fin listed i = true) (hop : opAt ops i env = some (.indexAddr t x y, d, ty))
    (hH : picks H hk = some H0) (hB : picks B bk = some B0)
    {K : Kd α} {A : Option Addr} {c n : Nat} {xs : List α} {kk : IntKind} {iv : Int} (hx : evalE env x = some (.slice A n c)) (hy : evalE env y = some (.int kk iv))
    (he : elemTy C.P t = some e) (hsz : tySize C.P e = some K.sz)
    {j : Nat} {f : Fct} (hf : B0[j]? = some f) (hrd : Reads f K A c xs) (hn : n = xs.length) (h0 : 0 ≤ iv) (h1 : iv < (xs.length : Int)) (hz : K.sz ≠ 0)
    (hput : putE C.n env d (elemP A iv.toNat K.sz 0) = some env') (g : GoF C ops fin H0 B0 k fuel (listed.set i true) env' H B o) : GoF C ops fin H0 B0 k (fuel + 1) listed env H B o := by
  refine GoF.take1 hc hop hH hB (fun l hl w S _ hb q hq _ => ?_) hput g
  obtain ⟨vs, hel, hcs⟩ := (hrd w S (hb f (List.mem_of_getElem? hf))).ex
  have hlen := hel.length
  have hpos : 0 < xs.length * K.sz := Nat.mul_pos (by omega) (by omega)
  rcases hcs with rfl | ⟨b, off, cells, ty', fz, hA, hT, hb, hcell⟩
  · simp at hlen; omega
  · subst hA
    obtain ⟨inf, hi, hs⟩ := tySize_ok hsz
    subst hn
    simp [execOp, hq, evalE_ok hl hx, evalE_ok hl hy, Instr.indexAt, asIntOf, run_underlying (elemTy_ok he), h0, h1, sizeOf, typeInfo, hi, hs, elemP]

/-- &xs[i].f, taken first. -/
theorem GoF.fldE {fuel : Nat} {listed : List Bool} {hk bk : List Nat} {α : Type} {t : TypeId} {x : Operand} {fi : Nat} {d : Option Tmp} {ty : TypeId} (hc : canTake ops fin listed i = true) (hop : opAt ops i env = some (.fieldAddr t x fi, d, ty))
    (hH : picks H hk = some H0) (hB : picks B bk = some B0)
    {K : Kd α} {A : Option Addr} {c off n : Nat} {xs : List α} {iN : Nat} (hx : evalE env x = some (elemP A iN K.sz off)) (hfo : fieldOff C.P t fi = some n)
    {j : Nat} {f : Fct} (hf : B0[j]? = some f) (hrd : Reads f K A c xs) (h1 : iN < xs.length) (hz : K.sz ≠ 0)
    (hput : putE C.n env d (elemP A iN K.sz (off + n)) = some env') (g : GoF C ops fin H0 B0 k fuel (listed.set i true) env' H B o) : GoF C ops fin H0 B0 k (fuel + 1) listed env H B o := by
  refine GoF.take1 hc hop hH hB (fun l hl w S _ hb q hq _ => ?_) hput g
  obtain ⟨b, of, cells, ty', fz, vs, hA, hT, hb, hel, hcell⟩ := (hrd w S (hb f (List.mem_of_getElem? hf))).ex1 (by omega) hz
  subst hA
  have hxx := evalE_ok hl hx
  have hv : elemP (some ⟨b, of, none⟩) iN K.sz off = .pointer (some ⟨b, of + (iN * K.sz + off), none⟩) := by simp [elemP, Addr.add_none]
  have hv' : elemP (some ⟨b, of, none⟩) iN K.sz (off + n) = .pointer (some ⟨b, of + (iN * K.sz + (off + n)), none⟩) := by simp [elemP, Addr.add_none]
  rw [hv] at hxx
  rw [hv']
  have := fieldOff_ok hfo ⟨b, of + (iN * K.sz + off), none⟩ w
  rw [Addr.add_none] at this
  simp [execOp, hq, hxx, this, Nat.add_assoc]

theorem run_ldE {α : Type} [Inhabited α] {P : Program} {t : TypeId} {K : Kd α} {A : Option Addr} {c off : Nat} {xs : List α} {iN : Nat} {w : World} {T R : Nat → Prop} (hrow : RowIn K w T R A c xs) (h1 : iN < xs.length) (hz : K.sz ≠ 0)
    {ec : List Value} (hec : ∀ cs, K.rel w R (xs.getD iN default) cs → cs = ec) {v : Value} (hv : loadBx P t ec off = some v) : (Instr.loadAt t (elemP A iN K.sz off)).run P w = .ok v w := by
  obtain ⟨b, of, cs, ty', fz, vs, hA, hT, hb, hel, hcell⟩ := hrow.ex1 (by omega) hz
  obtain ⟨ec', hrel, hec'⟩ := hel.get h1
  have := hec ec' hrel
  subst this
  subst hA
  have hvv : elemP (some ⟨b, of, none⟩) iN K.sz off = .pointer (some ⟨b, of + (iN * K.sz + off), none⟩) := by simp [elemP, Addr.add_none]
  rw [hvv]
  have hcells : ∀ m u, ec'[m]? = some u → cs[of + iN * K.sz + m]? = some u := by
    intro m u hm
    rw [hec', List.getElem?_take] at hm
    split at hm
    · rw [List.getElem?_drop] at hm
      have := hcell _ _ hm
      rwa [← Nat.add_assoc] at this
    · cases hm
  unfold loadBx at hv
  split at hv
  · rename_i n ha
    split at hv
    · rename_i hle
      rw [← Option.some.inj hv]
      have hle := Nat.le_of_ble_eq_true hle
      obtain ⟨h1, h2⟩ := aggSize_ok ha w
      have hl : ((ec'.drop off).take n).length = n := by simp; omega
      have hlc := run_loadCells_list (P := P) w ⟨b, of + (iN * K.sz + off), none⟩ ((ec'.drop off).take n) (fun j u hu => by
        rw [Addr.add_none]
        rw [List.getElem?_take] at hu
        split at hu
        · rw [List.getElem?_drop] at hu
          have := hcells _ _ hu
          simp only [World.cell?, hb]
          rw [show of + (iN * K.sz + off) + j = of + iN * K.sz + (off + j) by omega]
          simpa using this
        · cases hu)
      rw [hl] at hlc
      simp [Instr.loadAt, Instr.sureAddr, loadVar, h1, h2, hlc]
    · cases hv
  · rename_i n ha
    obtain ⟨h1, h2⟩ := aggSize_ok ha w
    have := hcells _ _ hv
    have hc : w.cell? ⟨b, of + (iN * K.sz + off), none⟩ = some v := by
      simp only [World.cell?, hb]
      rw [← Nat.add_assoc]
      simpa using this
    simp [Instr.loadAt, Instr.sureAddr, loadVar, h1, hc]
  · cases hv

/-- xs[i] or a part of it, taken first: elements without memory of their own. -/
theorem GoF.ldE {fuel : Nat} {listed : List Bool} {hk bk : List Nat} {α : Type} [Inhabited α] {t : TypeId} {x : Operand} {d : Option Tmp} {ty : TypeId} (hc : canTake ops fin listed i = true) (hop : opAt ops i env = some (.load t x, d, ty))
    (hH : picks H hk = some H0) (hB : picks B bk = some B0)
    {sz : Nat} {enc : α → List Value} {q1 : ∀ x, (enc x).length = sz} {q2 : ∀ x, allOne (enc x) = true} {K : Kd α} (hK : K = Kd.flat sz enc q1 q2)
    {A : Option Addr} {c off : Nat} {xs : List α} {iN : Nat} (hx : evalE env x = some (elemP A iN K.sz off))
    {j : Nat} {f : Fct} (hf : B0[j]? = some f) (hrd : Reads f K A c xs) (h1 : iN < xs.length) (hz : K.sz ≠ 0) {v : Value} (hv : loadBx C.P t (enc (xs.getD iN default)) off = some v)
    (hput : putE C.n env d v = some env') (g : GoF C ops fin H0 B0 k fuel (listed.set i true) env' H B o) : GoF C ops fin H0 B0 k (fuel + 1) listed env H B o := by
  refine GoF.take1 hc hop hH hB (fun l hl w S _ hb q hq _ => ?_) hput g
  have hrow := hrd w S (hb f (List.mem_of_getElem? hf))
  have := run_ldE (P := C.P) (t := t) (off := off) hrow h1 hz (ec := enc (xs.getD iN default)) (fun cs hcs => by subst hK; exact hcs) hv
  simp [execOp, hq, evalE_ok hl hx, this]

/-- Forgetting. -/
theorem GoF.sub {fuel : Nat} {listed : List Bool} {ks : List Nat} {hk bk : List Nat} (he : looks ks env = some env') (hH : picks H hk = some H') (hB : picks B bk = some B')
    (g : GoF C ops fin H0 B0 k fuel listed env' H' B' o) : GoF C ops fin H0 B0 k fuel listed env H B o :=
  fun r hr l w S hs => g r hr l w S ⟨hs.wf, hs.ext, hs.len, fun t v h => hs.env t v (looks_ok he t v h), fun x hx => hs.hs x (picks_mem hH x hx), fun x hx => hs.bs x (picks_mem hB x hx)⟩

/-- A final operation that only computes, or loads or stores at a known block: the one that is ready. -/
theorem GoF.fin1 {fuel : Nat} {listed : List Bool} {hint : Hint} {ps : List Prop} (hr : Region.ready .any ops ⟨listed⟩ = [i]) (h : ex1 C.P C.M C.np C.n ops (B.map (·.t)) i hint env H = some (env', H', ps)) (hp : AllP ps)
    {hk bk : List Nat} (hinv : inFin fin i = true ∨ (picks H' hk = some H0 ∧ picks B bk = some B0)) (g : GoF C ops fin H0 B0 k fuel (listed.set i true) env' H' B o) : GoF C ops fin H0 B0 k (fuel + 1) listed env H B o := by
  intro r hro l w S hs
  refine ⟨fun h0 => (by rw [hr] at h0; cases h0), fun j hj => ?_⟩
  rw [hr] at hj
  simp at hj
  subst hj
  have hl : (⟨listed⟩ : Array Bool).setIfInBounds j true = ⟨listed.set j true⟩ := by simp
  rw [hl]
  have key : ∀ l' w', Sat C env' H' B l' w' S → (NF (inFin fin) ⟨listed⟩ → inFin fin j = false → Inv H0 B0 w') ∧ anyF C.P ops (QF C r k) (Inv H0 B0) (inFin fin) fuel ⟨listed.set j true⟩ ⟨⟨l'⟩, []⟩ w' := by
    intro l' w' hs'
    refine ⟨fun _ hf => ?_, g r hro l' w' S hs'⟩
    rcases hinv with hinv | ⟨h1, h2⟩
    · rw [hf] at hinv; cases hinv
    · exact ⟨S, fun x hx => hs'.hs x (picks_mem h1 x hx), fun x hx => hs'.bs x (picks_mem h2 x hx)⟩
  obtain ⟨q, hq, ⟨hw, v, w', hrun, hs'⟩ | ⟨hw, hs'⟩⟩ := ex1_run h hp hs
  · exact OpX.wpOp ⟨q, hq, hw, .inl ⟨v, w', hrun, key _ _ hs'⟩⟩ fun l' w' hX => hX
  · unfold Go.wpOp
    simp only [hq, hw, Bool.false_eq_true, if_false]
    have hput : (⟨⟨l⟩, []⟩ : Act).put q.dst undef = ⟨⟨putL l q.dst undef⟩, []⟩ := by cases q.dst <;> simp [Act.put, putL]
    rw [hput]
    exact key _ _ hs'
end
end Go.GL
