import Derived.Test.YtmpockelhphkdaaG3
/-! Walks by symbolic states: rows of elements. -/
set_option linter.unusedVariables false
set_option linter.unusedSimpArgs false
namespace Go.GL
open Go

/-- A kind of element: how many cells, and which cells (and what they lead to, in memory that is only read) stand for a value. -/
structure Kd (α : Type) where
  sz : Nat
  rel : World → (Nat → Prop) → α → List Value → Prop
  len : ∀ {w R x cs}, rel w R x cs → cs.length = sz
  one : ∀ {w R x cs}, rel w R x cs → ∀ v ∈ cs, v.oneCell' = true
  st : ∀ {w w' : World} {R R' : Nat → Prop} {x cs}, (∀ b, R b → b < w.heap.size → w'.heap[b]? = w.heap[b]? ∧ R' b) → rel w R x cs → rel w' R' x cs

/-- A kind without memory of its own. -/
def Kd.flat {α : Type} (sz : Nat) (enc : α → List Value) (h1 : ∀ x, (enc x).length = sz) (h2 : ∀ x, allOne (enc x) = true) : Kd α where
  sz := sz
  rel := fun _ _ x cs => cs = enc x
  len := fun h => by subst h; exact h1 _
  one := fun h => by subst h; exact allOne_ok (h2 _)
  st := fun _ h => h

def Kd.int (k : IntKind) : Kd Int := .flat 1 (fun x => [.int k x]) (fun _ => rfl) (fun _ => rfl)
def Kd.u8 : Kd UInt8 := .flat 1 (fun x => [.int .u8 (x.toNat : Int)]) (fun _ => rfl) (fun _ => rfl)
def Kd.bool : Kd Bool := .flat 1 (fun x => [.bool x]) (fun _ => rfl) (fun _ => rfl)
def Kd.str : Kd (List UInt8) := .flat 1 (fun x => [.string (bs x)]) (fun _ => rfl) (fun _ => rfl)

section
variable {α : Type} (K : Kd α) (w : World) (R : Nat → Prop)

def Elems : List α → List Value → Prop
  | [], vs => vs = []
  | x :: xs, vs => ∃ cs vs', vs = cs ++ vs' ∧ K.rel w R x cs ∧ Elems xs vs'
end

section
variable {α : Type} {K : Kd α} {w w' : World} {R R' : Nat → Prop}

theorem Elems.length : ∀ {xs : List α} {vs : List Value}, Elems K w R xs vs → vs.length = xs.length * K.sz
  | [], vs, h => by simp only [Elems] at h; subst h; simp
  | x :: xs, vs, ⟨cs, vs', e, h, h'⟩ => by subst e; rw [List.length_append, K.len h, Elems.length h', List.length_cons, Nat.add_mul]; omega

theorem Elems.one : ∀ {xs : List α} {vs : List Value}, Elems K w R xs vs → ∀ v ∈ vs, v.oneCell' = true
  | [], vs, h, v, hv => by simp only [Elems] at h; subst h; cases hv
  | x :: xs, vs, ⟨cs, vs', e, h, h'⟩, v, hv => by
    subst e
    rcases List.mem_append.1 hv with hv | hv
    · exact K.one h v hv
    · exact Elems.one h' v hv

theorem Elems.st (hR : ∀ b, R b → b < w.heap.size → w'.heap[b]? = w.heap[b]? ∧ R' b) : ∀ {xs : List α} {vs : List Value}, Elems K w R xs vs → Elems K w' R' xs vs
  | [], vs, h => h
  | x :: xs, vs, ⟨cs, vs', e, h, h'⟩ => ⟨cs, vs', e, K.st hR h, Elems.st hR h'⟩

theorem Elems.append : ∀ {xs ys : List α} {vs us : List Value}, Elems K w R xs vs → Elems K w R ys us → Elems K w R (xs ++ ys) (vs ++ us)
  | [], ys, vs, us, h, h' => by simp only [Elems] at h; subst h; exact h'
  | x :: xs, ys, vs, us, ⟨cs, vs', e, h, h2⟩, h' => ⟨cs, vs' ++ us, by rw [e, List.append_assoc], h, Elems.append h2 h'⟩

theorem Elems.take : ∀ {xs : List α} {vs : List Value} (n : Nat), Elems K w R xs vs → Elems K w R (xs.take n) (vs.take (n * K.sz))
  | [], vs, n, h => by simp only [Elems] at h; subst h; simp [Elems]
  | x :: xs, vs, 0, _ => by simp [Elems]
  | x :: xs, vs, n + 1, ⟨cs, vs', e, h, h'⟩ => by
    refine ⟨cs, vs'.take (n * K.sz), ?_, h, Elems.take n h'⟩
    subst e
    rw [List.take_append, List.take_of_length_le (by rw [K.len h, Nat.add_mul]; omega), K.len h]
    congr 2
    rw [Nat.add_mul]; omega

theorem Elems.drop : ∀ {xs : List α} {vs : List Value} (n : Nat), Elems K w R xs vs → Elems K w R (xs.drop n) (vs.drop (n * K.sz))
  | [], vs, n, h => by simp only [Elems] at h; subst h; simp [Elems]
  | x :: xs, vs, 0, h => by simpa using h
  | x :: xs, vs, n + 1, ⟨cs, vs', e, h, h'⟩ => by
    subst e
    have := Elems.drop n h'
    have e1 : (cs ++ vs').drop ((n + 1) * K.sz) = vs'.drop (n * K.sz) := by
      rw [List.drop_append, List.drop_of_length_le (by rw [K.len h, Nat.add_mul]; omega), K.len h]
      have e2 : (n + 1) * K.sz - K.sz = n * K.sz := by rw [Nat.add_mul]; omega
      rw [e2]; simp
    rw [e1]
    simpa using this

theorem Elems.get [Inhabited α] {xs : List α} {vs : List Value} (h : Elems K w R xs vs) {i : Nat} (hi : i < xs.length) :
    ∃ cs, K.rel w R (xs.getD i default) cs ∧ cs = (vs.drop (i * K.sz)).take K.sz := by
  have hd := h.drop i
  have e : xs.drop i = xs.getD i default :: xs.drop (i + 1) := by
    rw [List.drop_eq_getElem_cons hi]; congr 1; simp [hi]
  rw [e] at hd
  obtain ⟨cs, vs', e2, hr, _⟩ := hd
  refine ⟨cs, hr, ?_⟩
  rw [e2, List.take_append, List.take_of_length_le (by rw [K.len hr]; omega), K.len hr]
  simp

theorem Elems.set : ∀ {xs : List α} {vs : List Value}, Elems K w R xs vs → ∀ {i : Nat} {x : α} {cs : List Value}, i < xs.length → K.rel w R x cs →
    Elems K w R (xs.set i x) (vs.take (i * K.sz) ++ cs ++ vs.drop (i * K.sz + K.sz))
  | y :: xs, vs, ⟨c, vs', e, h, h'⟩, 0, x, cs, _, hx => by
    refine ⟨cs, vs', ?_, hx, h'⟩
    subst e
    rw [List.drop_append, List.drop_of_length_le (by rw [K.len h]; omega), K.len h]
    simp
  | y :: xs, vs, ⟨c, vs', e, h, h'⟩, i + 1, x, cs, hi, hx => by
    refine ⟨c, vs'.take (i * K.sz) ++ cs ++ vs'.drop (i * K.sz + K.sz), ?_, h, Elems.set h' (by simpa using hi) hx⟩
    subst e
    have e1 : (i + 1) * K.sz = K.sz + i * K.sz := by rw [Nat.add_mul]; omega
    rw [e1, List.take_append, List.take_of_length_le (by rw [K.len h]; omega), K.len h, List.drop_append, List.drop_of_length_le (by rw [K.len h]; omega), K.len h]
    simp [Nat.add_assoc]

/-- Cells that can be read from an address on. -/
def CellsAt (w : World) (T : Nat → Prop) (A : Option Addr) (vs : List Value) : Prop :=
  vs = [] ∨ ∃ b off cells ty fz, A = some ⟨b, off, none⟩ ∧ T b ∧ w.heap[b]? = some (.cells cells ty fz) ∧ ∀ j u, vs[j]? = some u → cells[off + j]? = some u

theorem CellsAt.st {T T' : Nat → Prop} {A : Option Addr} {vs : List Value} (hT : ∀ b, T b → b < w.heap.size → w'.heap[b]? = w.heap[b]? ∧ T' b) (h : CellsAt w T A vs) : CellsAt w' T' A vs := by
  rcases h with h | ⟨b, off, cells, ty, fz, h1, h2, h3, h4⟩
  · exact .inl h
  · have hb : b < w.heap.size := (Array.getElem?_eq_some_iff.1 h3).1
    obtain ⟨e, t⟩ := hT b h2 hb
    exact .inr ⟨b, off, cells, ty, fz, h1, t, e ▸ h3, h4⟩

theorem CellsAt.cell {T : Nat → Prop} {a : Addr} {vs : List Value} (h : CellsAt w T (some a) vs) : ∀ j u, vs[j]? = some u → w.cell? (a.add j) = some u := by
  intro j u hu
  rcases h with h | ⟨b, off, cells, ty, fz, h1, h2, h3, h4⟩
  · subst h; simp at hu
  · cases h1
    rw [Addr.add_none]
    simp [World.cell?, h3, h4 j u hu]

/-- A row that may be read: the slice's address, its capacity, its elements. -/
structure RowIn (K : Kd α) (w : World) (T R : Nat → Prop) (A : Option Addr) (c : Nat) (xs : List α) : Prop where
  le : xs.length ≤ c
  ex : ∃ vs, Elems K w R xs vs ∧ CellsAt w T A vs

theorem RowIn.st {T T' : Nat → Prop} {A : Option Addr} {c : Nat} {xs : List α} (hT : ∀ b, T b → b < w.heap.size → w'.heap[b]? = w.heap[b]? ∧ T' b)
    (hR : ∀ b, R b → b < w.heap.size → w'.heap[b]? = w.heap[b]? ∧ R' b) (h : RowIn K w T R A c xs) : RowIn K w' T' R' A c xs :=
  let ⟨vs, h1, h2⟩ := h.ex
  ⟨h.le, vs, h1.st hR, h2.st hT⟩

/-- A row of one's own: nil, or at the head of a block that nobody else knows. -/
def RowOwn (K : Kd α) (w : World) (T R : Nat → Prop) (A : Option Addr) (c : Nat) (xs : List α) : Prop :=
  (A = none ∧ c = 0 ∧ xs = []) ∨ ∃ b cells ty vs, A = some ⟨b, 0, none⟩ ∧ T b ∧ w.heap[b]? = some (.cells cells ty (0, 0)) ∧ xs.length ≤ c ∧ c * K.sz ≤ cells.size ∧ Elems K w R xs vs ∧
    cells.toList.take (xs.length * K.sz) = vs

theorem RowOwn.st {T T' : Nat → Prop} {A : Option Addr} {c : Nat} {xs : List α} (hT : ∀ b, T b → b < w.heap.size → w'.heap[b]? = w.heap[b]? ∧ T' b)
    (hR : ∀ b, R b → b < w.heap.size → w'.heap[b]? = w.heap[b]? ∧ R' b) (h : RowOwn K w T R A c xs) : RowOwn K w' T' R' A c xs := by
  rcases h with h | ⟨b, cells, ty, vs, h1, h2, h3, h4, h5, h6, h7⟩
  · exact .inl h
  · have hb : b < w.heap.size := (Array.getElem?_eq_some_iff.1 h3).1
    obtain ⟨e, t⟩ := hT b h2 hb
    exact .inr ⟨b, cells, ty, vs, h1, t, e ▸ h3, h4, h5, h6.st hR, h7⟩

theorem RowOwn.rowIn {T : Nat → Prop} {A : Option Addr} {c : Nat} {xs : List α} (h : RowOwn K w T R A c xs) : RowIn K w T R A c xs := by
  rcases h with ⟨rfl, rfl, rfl⟩ | ⟨b, cells, ty, vs, h1, h2, h3, h4, h5, h6, h7⟩
  · exact ⟨Nat.le_refl _, [], rfl, .inl rfl⟩
  · refine ⟨h4, vs, h6, .inr ⟨b, 0, cells, ty, (0, 0), h1, h2, h3, fun j u hu => ?_⟩⟩
    rw [← h7, List.getElem?_take] at hu
    split at hu
    · simpa using hu
    · cases hu
end

def Q.rd {α : Type} (K : Kd α) (A : Option Addr) (c : Nat) (xs : List α) : Q where
  p := fun w T R => RowIn K w T R A c xs
  st := fun hT hR h => h.st hT hR
def Q.own {α : Type} (K : Kd α) (A : Option Addr) (c : Nat) (xs : List α) : Q where
  p := fun w T R => RowOwn K w T R A c xs
  st := fun hT hR h => h.st hT hR
abbrev Rd (t : Nat) {α : Type} (K : Kd α) (A : Option Addr) (c : Nat) (xs : List α) : Fct := ⟨t, Q.rd K A c xs⟩
abbrev Ow (t : Nat) {α : Type} (K : Kd α) (A : Option Addr) (c : Nat) (xs : List α) : Fct := ⟨t, Q.own K A c xs⟩

/-- The kind of a slice inside a struct: its elements in memory that is only read. -/
def Kd.slice {α : Type} (K : Kd α) : Kd (List α) where
  sz := 1
  rel := fun w R xs cs => ∃ A c, cs = [.slice A xs.length c] ∧ RowIn K w R R A c xs
  len := fun ⟨_, _, h, _⟩ => by subst h; rfl
  one := fun ⟨_, _, h, _⟩ => by subst h; intro v hv; simp at hv; subst hv; rfl
  st := fun hR ⟨A, c, h, hr⟩ => ⟨A, c, h, hr.st hR hR⟩

/-- A fact says that a row may be read. -/
def Reads {α : Type} (f : Fct) (K : Kd α) (A : Option Addr) (c : Nat) (xs : List α) : Prop := ∀ w S, f.ok w S → RowIn K w (S f.t) (S 0) A c xs
theorem Reads.rd {α : Type} {K : Kd α} {t : Nat} {A : Option Addr} {c : Nat} {xs : List α} : Reads (Rd t K A c xs) K A c xs := fun _ _ h => h
theorem Reads.own {α : Type} {K : Kd α} {t : Nat} {A : Option Addr} {c : Nat} {xs : List α} : Reads (Ow t K A c xs) K A c xs := fun _ _ h => RowOwn.rowIn h

/-- Where element i of a row lies, and how far into it. -/
def elemP (A : Option Addr) (i sz off : Nat) : Value := .pointer (A.map fun a => a.add (i * sz + off))

/-- The elements' type and size of a slice type. -/
def elemTy (P : Program) (t : TypeId) : Option TypeId := match P.underlying t with | some (.slice e) => some e | _ => none
theorem elemTy_ok {P : Program} {t e : TypeId} (h : elemTy P t = some e) : P.underlying t = some (.slice e) := by
  unfold elemTy at h; split at h
  · cases h; assumption
  · cases h
def tySize (P : Program) (t : TypeId) : Option Nat := match P.info? t with | some i => some i.size | none => none
theorem tySize_ok {P : Program} {t : TypeId} {n : Nat} (h : tySize P t = some n) : ∃ i, P.info? t = some i ∧ i.size = n := by
  unfold tySize at h; split at h
  · cases h; exact ⟨_, by assumption, rfl⟩
  · cases h

section
variable {ρ : Type} {C : Cx ρ} {env env' : Env} {H H' : List Bx} {B B' : List Fct} {k : List Item} {o : Option ρ} {ops : Array Oper} {rest : List Nat} {i : Nat} {G : Env → List Bx → List Fct → Option ρ → Prop}

/-- What an operation is, whether it is wanted, and the frame behind it: asked of the kernel. -/
def opAt (ops : Array Oper) (i : Nat) (env : Env) : Option (Op × Option Tmp × TypeId) :=
  match ops[i]? with
  | some q => match wantedE ops env q with
    | some true => some (q.op, q.dst, q.type)
    | _ => none
  | none => none

theorem opAt_ok {op : Op} {d : Option Tmp} {ty : TypeId} (h : opAt ops i env = some (op, d, ty)) : ∃ q, ops[i]? = some q ∧ wantedE ops env q = some true ∧ q.op = op ∧ q.dst = d ∧ q.type = ty := by
  unfold opAt at h
  split at h
  · rename_i q hq
    split at h
    · rename_i hw; cases h; exact ⟨q, hq, hw, rfl, rfl, rfl⟩
    · cases h
  · cases h

/-- What one operation comes to: a value, or a call. -/
def OpX (P : Program) (ops : Array Oper) (i : Nat) (X : List Value → World → Prop) (l : List Value) (w : World) : Prop :=
  ∃ q, ops[i]? = some q ∧ Region.wanted q (yielded ops ⟨l⟩) = true ∧
    ((∃ v w', ((execOp (Act.eval ⟨⟨l⟩, []⟩) q).run P w = .ok (.value v) w' ∨ ((execOp (Act.eval ⟨⟨l⟩, []⟩) q).run P w = .ok .skip w' ∧ v = undef)) ∧ X (putL l q.dst v) w') ∨
     (∃ g args, (execOp (Act.eval ⟨⟨l⟩, []⟩) q).run P w = .ok (.enter g args) w ∧ Calls P g args w fun e w' => ∃ v, e = .returned v ∧ X (putL l q.dst v) w'))

theorem Runs.call {l : List Value} {w : World} {R : Ending → World → Prop} {q : Oper} {g : FuncId} {args : Array Value} (hq : ops[i]? = some q) (hw : Region.wanted q (yielded ops ⟨l⟩) = true)
    (hrun : (execOp (Act.eval ⟨⟨l⟩, []⟩) q).run C.P w = .ok (.enter g args) w)
    (hc : Calls C.P g args w fun e w' => ∃ v, e = .returned v ∧ Runs C.P C.f (.inRegion ops rest :: k) (putL l q.dst v) w' R) : Runs C.P C.f (.inRegion ops (i :: rest) :: k) l w R := by
  intro b cs hb hk
  obtain ⟨e, w'', fr, ⟨v, he, hR⟩, hsteps, _, hleave⟩ := hc (b.at ⟨⟨l⟩, []⟩ (.inRegion ops (i :: rest) :: k) :: cs)
  subst he
  have hg := stepG_op (P := C.P) (b := b) (a := ⟨⟨l⟩, []⟩) (k := k) (cs := cs) (w := w) (rest := rest) hq hw
  have henter : Go.step C.P (lone (b.at ⟨⟨l⟩, []⟩ (.inRegion ops (i :: rest) :: k)) cs w) =
      .next (lone (Frame.enter C.P g args .normal) (b.at ⟨⟨l⟩, []⟩ (.inRegion ops (i :: rest) :: k) :: cs) w) :=
    step_lone_go (by rw [hg]; simp [stepG.apply, hrun, Frame.at])
  obtain ⟨e, w₃, fr', hR', hc', hfn, hl⟩ := hR b cs hb hk
  have hput : (b.at ⟨⟨l⟩, []⟩ (.inRegion ops (i :: rest) :: k)).finish v = b.at ⟨⟨putL l q.dst v⟩, []⟩ (.inRegion ops rest :: k) := by
    rw [Frame.finish_at]
    simp only [hq, Option.bind_some]
    cases q.dst <;> simp [Act.put, putL]
  refine ⟨e, w₃, fr', hR', Comes.of_steps (.head henter (Steps.trans hsteps (.one ?_))) hc', hfn, hl⟩
  rw [← hput]
  exact step_leave_returned hleave


theorem OpX.runs {l : List Value} {w : World} {R : Ending → World → Prop} (h : OpX C.P ops i (fun l' w' => Runs C.P C.f (.inRegion ops rest :: k) l' w' R) l w) : Runs C.P C.f (.inRegion ops (i :: rest) :: k) l w R := by
  obtain ⟨q, hq, hw, ⟨v, w', hrun, hX⟩ | ⟨g, args, hrun, hc⟩⟩ := h
  · exact hX.step fun _ _ _ => step_op_ok hq hw hrun
  · exact Runs.call hq hw hrun hc

/-- From a state of this shape operation i comes to states of which G speaks. -/
def OpTo (C : Cx ρ) (ops : Array Oper) (i : Nat) (env : Env) (H : List Bx) (B : List Fct) (o : Option ρ) (G : Env → List Bx → List Fct → Option ρ → Prop) : Prop :=
  ∀ r, o = some r → ∀ l w S, Sat C env H B l w S → ∀ X : List Value → World → Prop,
    (∀ env' H' B' o' l' w' S', G env' H' B' o' → o' = some r → Sat C env' H' B' l' w' S' → X l' w') → OpX C.P ops i X l w

theorem OpTo.go (h : OpTo C ops i env H B o fun env' H' B' o' => GoO C env' H' B' (.inRegion ops rest :: k) o') : GoO C env H B (.inRegion ops (i :: rest) :: k) o :=
  fun r hr l w S hsat => (h r hr l w S hsat _ fun _ _ _ _ l' w' S' g ho hs => g r ho l' w' S' hs).runs

/-- A rule for one operation that yields a value: what is known behind it. -/
theorem GoO.op {op : Op} {d : Option Tmp} {ty : TypeId} (hop : opAt ops i env = some (op, d, ty))
    (h : ∀ l w S, Sat C env H B l w S → ∀ r, o = some r → ∃ v w', ((∀ q : Oper, q.op = op → q.type = ty → (execOp (Act.eval ⟨⟨l⟩, []⟩) q).run C.P w = .ok (.value v) w') ∨
        ((∀ q : Oper, q.op = op → q.type = ty → (execOp (Act.eval ⟨⟨l⟩, []⟩) q).run C.P w = .ok .skip w') ∧ v = undef)) ∧
      ∃ env' H' B' S', putE C.n env d v = some env' ∧ (∀ l', l'.length = C.n → EnvOk env' l' → Sat C env' H' B' l' w' S') ∧ G env' H' B' o) :
    OpTo C ops i env H B o G := by
  intro r hr l w S hsat X hX
  obtain ⟨q, hq, hw, e1, e2, e3⟩ := opAt_ok hop
  obtain ⟨v, w', hrun, env', H', B', S', hput, hs', g⟩ := h l w S hsat r hr
  obtain ⟨h1, h2⟩ := putE_ok hput hsat.len hsat.env
  subst e2
  refine ⟨q, hq, wantedE_ok hsat.env hw, .inl ⟨v, w', ?_, hX env' H' B' o _ w' S' g hr (hs' _ h2 h1)⟩⟩
  rcases hrun with hrun | ⟨hrun, hv⟩
  · exact .inl (hrun q e1 e3)
  · exact .inr ⟨hrun q e1 e3, hv⟩

/-- &xs[i] -/
theorem GoO.idx {α : Type} {t : TypeId} {x y : Operand} {d : Option Tmp} {ty e : TypeId} (hop : opAt ops i env = some (.indexAddr t x y, d, ty))
    {K : Kd α} {A : Option Addr} {c n : Nat} {xs : List α} {kk : IntKind} {iv : Int} (hx : evalE env x = some (.slice A n c)) (hy : evalE env y = some (.int kk iv))
    (he : elemTy C.P t = some e) (hsz : tySize C.P e = some K.sz)
    {j : Nat} {f : Fct} (hf : B[j]? = some f) (hrd : Reads f K A c xs) (hn : n = xs.length) (h0 : 0 ≤ iv) (h1 : iv < (xs.length : Int)) (hz : K.sz ≠ 0)
    (hput : putE C.n env d (elemP A iv.toNat K.sz 0) = some env') (g : G env' H B o) : OpTo C ops i env H B o G := by
  refine GoO.op hop fun l w S hsat r hr => ⟨elemP A iv.toNat K.sz 0, w, .inl fun q hq _ => ?_, env', H, B, S, hput, fun l' h2 h1 => ⟨hsat.wf, hsat.ext, h2, h1, hsat.hs, hsat.bs⟩, g⟩
  obtain ⟨vs, hel, hcs⟩ := (hrd w S (hsat.bs f (List.mem_of_getElem? hf))).ex
  have hlen := hel.length
  have hpos : 0 < xs.length * K.sz := Nat.mul_pos (by omega) (by omega)
  rcases hcs with rfl | ⟨b, off, cells, ty', fz, hA, hT, hb, hcell⟩
  · simp at hlen; omega
  · subst hA
    obtain ⟨inf, hi, hs⟩ := tySize_ok hsz
    subst hn
    simp [execOp, hq, evalE_ok hsat.env hx, evalE_ok hsat.env hy, Instr.indexAt, asIntOf, run_underlying (elemTy_ok he), h0, h1, sizeOf, typeInfo, hi, hs, elemP]

end
end Go.GL
