import Derived.Calls
import Derived.OrdersHeld
import Derived.KernelRfl
/-! Walks by symbolic states: core. -/
set_option linter.unusedSimpArgs false
set_option linter.unusedVariables false
namespace Go.GL
open Go

abbrev Fam := Nat → Nat → Prop

/-- Tags own blocks: each block has one tag at most, and lies in memory. -/
structure Good (w : World) (S : Fam) : Prop where
  bd : ∀ t b, S t b → b < w.heap.size
  dj : ∀ t u b, S t b → S u b → t = u

/-- What has become of memory since (w0, S0): only blocks of the tags in M were written; tag 0 (read only) only grows. -/
structure Ext (w0 : World) (S0 : Fam) (M : List Nat) (w : World) (S : Fam) : Prop where
  size : w0.heap.size ≤ w.heap.size
  same : ∀ b, b < w0.heap.size → (∀ t, t ∈ M → ¬ S0 t b) → w.heap[b]? = w0.heap[b]?
  good : Good w S
  old : ∀ t b, S t b → b < w0.heap.size → S0 t b
  grow0 : ∀ b, S0 0 b → S 0 b
  out : w.output = w0.output
  os : w.os = w0.os
  tape : w.tape = w0.tape

theorem Ext.refl {w : World} {S : Fam} (M : List Nat) (h : Good w S) : Ext w S M w S :=
  ⟨Nat.le_refl _, fun _ _ _ => rfl, h, fun _ _ h _ => h, fun _ h => h, rfl, rfl, rfl⟩

/-- A fact about memory: T its own blocks, R the blocks that are only read. -/
structure Q where
  p : World → (Nat → Prop) → (Nat → Prop) → Prop
  st : ∀ {w w' : World} {T T' R R' : Nat → Prop}, (∀ b, T b → b < w.heap.size → w'.heap[b]? = w.heap[b]? ∧ T' b) →
    (∀ b, R b → b < w.heap.size → w'.heap[b]? = w.heap[b]? ∧ R' b) → p w T R → p w' T' R'

structure Fct where
  t : Nat
  q : Q
def Fct.ok (f : Fct) (w : World) (S : Fam) : Prop := f.q.p w (S f.t) (S 0)

/-- A block that is known whole. -/
structure Bx where
  t : Nat
  b : Nat
  cs : List Value
def Bx.ok (x : Bx) (w : World) (S : Fam) : Prop := S x.t x.b ∧ ∃ T, w.heap[x.b]? = some (.cells ⟨x.cs⟩ T (0, 0))

abbrev Env := List (Nat × Value)
def look (t : Nat) : Env → Option Value
  | [] => none
  | (u, v) :: r => match Nat.beq t u with
    | true => some v
    | false => look t r
def looks : List Nat → Env → Option Env
  | [], _ => some []
  | t :: r, e => match look t e with
    | some v => match looks r e with
      | some l => some ((t, v) :: l)
      | none => none
    | none => none
def EnvOk (env : Env) (l : List Value) : Prop := ∀ t v, look t env = some v → l[t]? = some v

def HOk (H : List Bx) (w : World) (S : Fam) : Prop := ∀ x, x ∈ H → x.ok w S
def BOk (B : List Fct) (w : World) (S : Fam) : Prop := ∀ f, f ∈ B → f.ok w S

/-- From this frame on the function returns as R says. -/
def Runs (P : Program) (f : FuncId) (todo : List Item) (l : List Value) (w : World) (R : Ending → World → Prop) : Prop :=
  ∀ (b : Frame) (cs : List Frame), b.fn = f → b.kind = .normal →
    ∃ e w' fr, R e w' ∧ Comes P (lone (b.at ⟨⟨l⟩, []⟩ todo) cs w) (lone fr cs w') e ∧ fr.fn = f ∧ fr.leaving P w' e

theorem Runs.step {P : Program} {f : FuncId} {todo todo' : List Item} {l l' : List Value} {w w' : World} {R : Ending → World → Prop}
    (hs : ∀ (b : Frame) (cs : List Frame), b.fn = f → step P (lone (b.at ⟨⟨l⟩, []⟩ todo) cs w) = .next (lone (b.at ⟨⟨l'⟩, []⟩ todo') cs w'))
    (h : Runs P f todo' l' w' R) : Runs P f todo l w R := by
  intro b cs hf hk
  obtain ⟨e, w'', fr, hR, hc, hfn, hl⟩ := h b cs hf hk
  exact ⟨e, w'', fr, hR, Comes.of_steps (.one (hs b cs hf)) hc, hfn, hl⟩

theorem calls_of_runs {P : Program} {f : FuncId} {fn : Func} {c : Code} {args : Array Value} {w : World} {R : Ending → World → Prop}
    (hf : P.funcs[f]? = some fn) (hb : fn.body = some c)
    (h : Runs P f [.code c] (args.toList ++ List.replicate (fn.ntmps - args.size) undef) w R) : Calls P f args w R := by
  intro cs
  have henter : Frame.enter P f args .normal =
      ({ (default : Frame) with fn := f, kind := .normal } : Frame).at ⟨⟨args.toList ++ List.replicate (fn.ntmps - args.size) undef⟩, []⟩ [.code c] := by
    simp only [Frame.enter, Frame.at, hf, Option.bind_some, hb, Option.getD_some]
    congr 1
    apply Array.ext'
    simp
  obtain ⟨e, w', fr, hR, hc, hfn, hl⟩ := h ({ (default : Frame) with fn := f, kind := .normal } : Frame) cs rfl rfl
  rw [← henter] at hc
  exact ⟨e, w', fr, hR, hc, hfn, hl⟩

/-- What a function answers: x is what nobody knows of the answer (addresses, capacities). -/
structure Pst (ρ : Type) where
  ε : Type
  v : ρ → ε → Value
  H : ρ → ε → List Bx
  B : ρ → ε → List Fct

/-- What a function owes. -/
structure Cx (ρ : Type) where
  P : Program
  f : FuncId
  fn : Func
  n : Nat
  w0 : World
  S0 : Fam
  M : List Nat
  np : Nat
  R : Pst ρ

structure Sat {ρ : Type} (C : Cx ρ) (env : Env) (H : List Bx) (B : List Fct) (l : List Value) (w : World) (S : Fam) : Prop where
  wf : ∀ t, C.np < t → ∀ b, ¬ C.S0 t b
  ext : Ext C.w0 C.S0 C.M w S
  len : l.length = C.n
  env : EnvOk env l
  hs : HOk H w S
  bs : BOk B w S

def Post {ρ : Type} (C : Cx ρ) (r : ρ) (e : Ending) (w' : World) : Prop :=
  ∃ x S', e = .returned (C.R.v r x) ∧ Ext C.w0 C.S0 C.M w' S' ∧ HOk (C.R.H r x) w' S' ∧ BOk (C.R.B r x) w' S'

/-- In every frame and memory of this shape, and where the pure program answers r, the code comes to what is owed for r. -/
def GoO {ρ : Type} (C : Cx ρ) (env : Env) (H : List Bx) (B : List Fct) (todo : List Item) (o : Option ρ) : Prop :=
  ∀ r, o = some r → ∀ l w S, Sat C env H B l w S → Runs C.P C.f todo l w (Post C r)

section rules
variable {ρ : Type} {C : Cx ρ} {env env' : Env} {H H' : List Bx} {B B' : List Fct} {k : List Item} {o o' : Option ρ}

theorem GoO.stop {todo : List Item} : GoO C env H B todo (none : Option ρ) := fun _ h => by cases h
theorem GoO.eq {todo : List Item} (h : o = o') (g : GoO C env H B todo o') : GoO C env H B todo o := h ▸ g

theorem GoO.move {todo todo' : List Item} (hs : ∀ (b : Frame) (cs : List Frame) (a : Act) (w : World), step C.P (lone (b.at a todo) cs w) = .next (lone (b.at a todo') cs w))
    (g : GoO C env H B todo' o) : GoO C env H B todo o :=
  fun r hr l w S hsat => (g r hr l w S hsat).step fun b cs _ => hs b cs _ w

theorem GoO.skip (g : GoO C env H B k o) : GoO C env H B (.code .skip :: k) o := g.move fun _ _ _ _ => step_skip
theorem GoO.inBlock {id : Nat} (g : GoO C env H B k o) : GoO C env H B (.inBlock id :: k) o := g.move fun _ _ _ _ => step_inBlock
theorem GoO.seq {x y : Code} (g : GoO C env H B (.code x :: .code y :: k) o) : GoO C env H B (.code (.seq x y) :: k) o := g.move fun _ _ _ _ => step_seq
theorem GoO.block {id : Nat} {c : Code} (g : GoO C env H B (.code c :: .inBlock id :: k) o) : GoO C env H B (.code (.block id c) :: k) o := g.move fun _ _ _ _ => step_block
theorem GoO.loop {c : Code} (g : GoO C env H B (.code c :: .inLoop c :: k) o) : GoO C env H B (.code (.loop c) :: k) o := g.move fun _ _ _ _ => step_loop
theorem GoO.inLoop {c : Code} (g : GoO C env H B (.code c :: .inLoop c :: k) o) : GoO C env H B (.inLoop c :: k) o := g.move fun _ _ _ _ => step_inLoop
theorem GoO.exit {id : Nat} {k' : List Item} (h : exitTo id k = some k') (g : GoO C env H B k' o) : GoO C env H B (.code (.exit id) :: k) o :=
  g.move fun _ _ _ _ => step_exit h
theorem GoO.region {id : Nat} {ops : Array Oper} {is : List Nat} (h : List.range ops.size = is) (g : GoO C env H B (.inRegion ops is :: k) o) :
    GoO C env H B (.code (.region id ops false) :: k) o := g.move fun _ _ _ _ => h ▸ step_region
theorem GoO.regionEnd {ops : Array Oper} (g : GoO C env H B k o) : GoO C env H B (.inRegion ops [] :: k) o := g.move fun _ _ _ _ => step_region_end

/-- What an operand is, where the frame is known. -/
def evalE (env : Env) : Operand → Option Value
  | .tmp t => look t env
  | .const v => some v
  | .global g => some (.pointer (some ⟨g, 0, none⟩))
  | .func f => some (.func (.func f) #[] #[])

theorem evalE_ok {env : Env} {l : List Value} (h : EnvOk env l) {x : Operand} {v : Value} (hv : evalE env x = some v) : Act.eval ⟨⟨l⟩, []⟩ x = v := by
  cases x with
  | tmp t =>
    have := h t v hv
    simp [Act.eval, this]
  | const u => simpa [evalE, Act.eval] using hv
  | global g => simpa [evalE, Act.eval] using hv
  | func f => simpa [evalE, Act.eval] using hv

theorem GoO.cond {c : Operand} {x y : Code} {e : Bool} (hc : evalE env c = some (.bool e))
    (ht : e = true → GoO C env H B (.code x :: k) o) (hf : e = false → GoO C env H B (.code y :: k) o) : GoO C env H B (.code (.cond c x y) :: k) o := by
  intro r hr l w S hsat
  have he := evalE_ok hsat.env hc
  cases e with
  | true => exact (ht rfl r hr l w S hsat).step fun b cs _ => step_cond (t := true) he
  | false => exact (hf rfl r hr l w S hsat).step fun b cs _ => step_cond (t := false) he

/-- 'if e then .. else ..' in both. -/
theorem GoO.ite {c : Operand} {x y : Code} {e : Bool} (hc : evalE env c = some (.bool e))
    (ht : e = true → GoO C env H B (.code x :: k) o) (hf : e = false → GoO C env H B (.code y :: k) o') :
    GoO C env H B (.code (.cond c x y) :: k) (if e = true then o else o') := by
  refine GoO.cond hc (fun h => ?_) (fun h => ?_)
  · rw [if_pos h]; exact ht h
  · rw [if_neg (by rw [h]; decide)]; exact hf h

/-- A test of the pure program alone (a guard). -/
theorem GoO.guard {p : Prop} [Decidable p] {todo : List Item} (ht : p → GoO C env H B todo o) : GoO C env H B todo (if p then o else Option.none) := by
  by_cases h : p
  · rw [if_pos h]; exact ht h
  · rw [if_neg h]; exact GoO.stop
theorem GoO.split {p : Prop} [Decidable p] {todo : List Item} (ht : p → GoO C env H B todo o) (hf : ¬ p → GoO C env H B todo o') : GoO C env H B todo (if p then o else o') := by
  by_cases h : p
  · rw [if_pos h]; exact ht h
  · rw [if_neg h]; exact hf h

/-- Forgetting. -/
def picks {α : Type} (l : List α) : List Nat → Option (List α)
  | [] => some []
  | i :: r => match l[i]? with
    | some x => match picks l r with
      | some y => some (x :: y)
      | none => none
    | none => none

theorem picks_mem {α : Type} {l : List α} : ∀ {is : List Nat} {l' : List α}, picks l is = some l' → ∀ x, x ∈ l' → x ∈ l
  | [], l', h, x, hx => by simp [picks] at h; subst h; cases hx
  | i :: r, l', h, x, hx => by
    simp only [picks] at h
    split at h
    · rename_i y hy
      split at h
      · rename_i z hz
        cases h
        cases hx with
        | head => exact List.mem_of_getElem? hy
        | tail _ hx => exact picks_mem hz x hx
      · cases h
    · cases h

theorem looks_ok : ∀ {ks : List Nat} {env env' : Env}, looks ks env = some env' → ∀ t v, look t env' = some v → look t env = some v
  | [], env, env', h, t, v, hv => by simp [looks] at h; subst h; simp [look] at hv
  | u :: r, env, env', h, t, v, hv => by
    simp only [looks] at h
    split at h
    · rename_i y hy
      split at h
      · rename_i z hz
        cases h
        simp only [look] at hv
        split at hv
        · rename_i hb
          have := Nat.eq_of_beq_eq_true hb
          subst this
          rw [hy]; exact hv
        · exact looks_ok hz t v hv
      · cases h
    · cases h

theorem GoO.sub {todo : List Item} {ks : List Nat} {hk bk : List Nat} (he : looks ks env = some env') (hH : picks H hk = some H') (hB : picks B bk = some B')
    (g : GoO C env' H' B' todo o) : GoO C env H B todo o :=
  fun r hr l w S hs => g r hr l w S ⟨hs.wf, hs.ext, hs.len, fun t v h => hs.env t v (looks_ok he t v h), fun x hx => hs.hs x (picks_mem hH x hx), fun x hx => hs.bs x (picks_mem hB x hx)⟩
end rules

/-! ### One operation -/
section op
variable {P : Program} {b : Frame} {l : List Value} {k : List Item} {cs : List Frame} {w w' : World} {ops : Array Oper}

/-- The guard of an operation, where the frame is known. -/
def wantedE (ops : Array Oper) (env : Env) (o : Oper) : Option Bool :=
  match o.guard with
  | none => some true
  | some (j, want) =>
    match (match ops[j]? with | some q => q.dst | none => none) with
    | some d => match look d env with
      | some (.bool c) => match c, want with
        | true, true => some true
        | false, false => some true
        | true, false => some false
        | false, true => some false
      | some (.tuple _) => some false
      | _ => none
    | none => none

theorem wantedE_ok {env : Env} (h : EnvOk env l) {o : Oper} {c : Bool} (hw : wantedE ops env o = some c) :
    Region.wanted o (yielded ops ⟨l⟩) = c := by
  unfold wantedE at hw
  unfold Region.wanted
  split at hw
  · rename_i hg; rw [hg]; simpa using hw
  · rename_i j want hg
    rw [hg]
    simp only []
    split at hw
    · rename_i d hd
      split at hw
      · rename_i c' hc
        have hl := h d _ hc
        have : yielded ops ⟨l⟩ j = some c' := by
          unfold yielded
          have hb : (ops[j]?).bind (·.dst) = some d := by
            cases hq : ops[j]? with
            | none => rw [hq] at hd; cases hd
            | some q => rw [hq] at hd; simpa using hd
          rw [hb]
          simp [hl]
        rw [this]
        cases c' <;> cases want <;> simp at hw <;> subst hw <;> rfl
      · rename_i vs hc
        have hl := h d _ hc
        have : yielded ops ⟨l⟩ j = none := by
          unfold yielded
          have hb : (ops[j]?).bind (·.dst) = some d := by
            cases hq : ops[j]? with
            | none => rw [hq] at hd; cases hd
            | some q => rw [hq] at hd; simpa using hd
          rw [hb]
          simp [hl]
        rw [this]
        cases hw
        cases want <;> rfl
      · cases hw
    · cases hw

def putL (l : List Value) (d : Option Tmp) (v : Value) : List Value := match d with | some d => l.set d v | none => l

theorem step_op_ok {i : Nat} {rest : List Nat} {o : Oper} (ho : ops[i]? = some o) (hw : Region.wanted o (yielded ops ⟨l⟩) = true) {v : Value}
    (hr : (execOp (Act.eval ⟨⟨l⟩, []⟩) o).run P w = .ok (.value v) w' ∨ ((execOp (Act.eval ⟨⟨l⟩, []⟩) o).run P w = .ok .skip w' ∧ v = undef)) :
    step P (lone (b.at ⟨⟨l⟩, []⟩ (.inRegion ops (i :: rest) :: k)) cs w) = .next (lone (b.at ⟨⟨putL l o.dst v⟩, []⟩ (.inRegion ops rest :: k)) cs w') := by
  refine step_lone_go ?_
  rw [stepG_op ho hw]
  have hput : (b.at ⟨⟨l⟩, []⟩ (.inRegion ops (i :: rest) :: k)).finish v = b.at ⟨⟨putL l o.dst v⟩, []⟩ (.inRegion ops rest :: k) := by
    rw [Frame.finish_at]
    simp only [ho, Option.bind_some]
    cases o.dst <;> simp [Act.put, putL]
  rcases hr with hr | ⟨hr, rfl⟩ <;>
  · rw [← hput]; simp [stepG.apply, hr]

theorem step_op_no {i : Nat} {rest : List Nat} {o : Oper} (ho : ops[i]? = some o) (hw : Region.wanted o (yielded ops ⟨l⟩) = false) :
    step P (lone (b.at ⟨⟨l⟩, []⟩ (.inRegion ops (i :: rest) :: k)) cs w) = .next (lone (b.at ⟨⟨putL l o.dst undef⟩, []⟩ (.inRegion ops rest :: k)) cs w) := by
  have := step_op_skip (P := P) (b := b) (a := ⟨⟨l⟩, []⟩) (k := k) (cs := cs) (w := w) (ops := ops) (i := i) (rest := rest) (by simp [ho, hw])
  rw [this]
  simp only [ho, Option.bind_some]
  cases o.dst <;> simp [Act.put, putL]
end op
end Go.GL
