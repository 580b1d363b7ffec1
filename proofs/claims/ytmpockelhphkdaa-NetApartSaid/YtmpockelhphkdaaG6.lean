import Derived.Test.YtmpockelhphkdaaG5
import Derived.Laws.BytesArg
import Derived.Lib.ConvBytes
/-! Walks by symbolic states: new blocks, append, make, slicing, conversions. -/
set_option linter.unusedVariables false
set_option linter.unusedSimpArgs false
namespace Go.GL
open Go

/-! ### A new block -/
def addS (S : Fam) (t b : Nat) : Fam := fun u k => S u k ∨ (u = t ∧ k = b)

structure Alloc (w w' : World) (x : Obj) : Prop where
  heap : w'.heap = w.heap.push x
  out : w'.output = w.output
  os : w'.os = w.os
  tape : w'.tape = w.tape

theorem Alloc.size {w w' : World} {x : Obj} (h : Alloc w w' x) : w'.heap.size = w.heap.size + 1 := by rw [h.heap]; simp
theorem Alloc.old {w w' : World} {x : Obj} (h : Alloc w w' x) {b : Nat} (hb : b < w.heap.size) : w'.heap[b]? = w.heap[b]? := by
  rw [h.heap, Array.getElem?_push, if_neg (by omega)]
theorem Alloc.new {w w' : World} {x : Obj} (h : Alloc w w' x) : w'.heap[w.heap.size]? = some x := by
  rw [h.heap, Array.getElem?_push, if_pos rfl]

theorem Alloc.ext {w0 w w' : World} {S0 S : Fam} {M : List Nat} {x : Obj} (ha : Alloc w w' x) (t : Nat) (h : Ext w0 S0 M w S) : Ext w0 S0 M w' (addS S t w.heap.size) := by
  refine ⟨by rw [ha.size]; have := h.size; omega, fun k hk hm => ?_, ⟨?_, ?_⟩, ?_, fun b hb => .inl (h.grow0 b hb), ha.out.trans h.out, ha.os.trans h.os, ha.tape.trans h.tape⟩
  · rw [ha.old (Nat.lt_of_lt_of_le hk h.size), h.same k hk hm]
  · rintro u b (hb | ⟨_, rfl⟩)
    · rw [ha.size]; have := h.good.bd u b hb; omega
    · rw [ha.size]; omega
  · rintro u v b (h1 | ⟨rfl, rfl⟩) (h2 | ⟨rfl, hb⟩)
    · exact h.good.dj _ _ _ h1 h2
    · subst hb; exact absurd (h.good.bd _ _ h1) (Nat.lt_irrefl _)
    · exact absurd (h.good.bd _ _ h2) (Nat.lt_irrefl _)
    · rfl
  · rintro u b (hb | ⟨_, rfl⟩) hl
    · exact h.old u b hb hl
    · have := h.size; omega

theorem Alloc.fct {w w' : World} {S : Fam} {x : Obj} (ha : Alloc w w' x) (t : Nat) {f : Fct} (h : f.ok w S) : f.ok w' (addS S t w.heap.size) :=
  f.q.st (fun b hb hl => ⟨ha.old hl, .inl hb⟩) (fun b hb hl => ⟨ha.old hl, .inl hb⟩) h

theorem Alloc.bx {w w' : World} {S : Fam} {x : Obj} (ha : Alloc w w' x) (hg : Good w S) (t : Nat) {y : Bx} (h : y.ok w S) : y.ok w' (addS S t w.heap.size) := by
  obtain ⟨h1, T, h2⟩ := h
  exact ⟨.inl h1, T, by rw [ha.old (hg.bd _ _ h1)]; exact h2⟩

section
variable {ρ : Type} {C : Cx ρ} {env env' : Env} {H H' : List Bx} {B B' : List Fct} {k : List Item} {o : Option ρ} {ops : Array Oper} {rest : List Nat} {i : Nat} {G : Env → List Bx → List Fct → Option ρ → Prop}

theorem Sat.alloc {l l' : List Value} {w w' : World} {S : Fam} {x : Obj} (hs : Sat C env H B l w S) (ha : Alloc w w' x) (t : Nat) (h1 : EnvOk env' l') (h2 : l'.length = C.n) :
    Sat C env' H B l' w' (addS S t w.heap.size) :=
  ⟨hs.wf, ha.ext t hs.ext, h2, h1, fun y hy => ha.bx hs.ext.good t (hs.hs y hy), fun f hf => ha.fct t (hs.bs f hf)⟩

/-- A new variable: its cells, where they are known. -/
def newCells (P : Program) (env : Env) (op : Op) : Option (List Value) :=
  match op with
  | .box _ x => match evalE env x with | some v => some v.cells.toList | none => none
  | .alloc t => match P.info? t with
    | some i => match i.zero with | some z => some z.cells.toList | none => none
    | none => none
  | _ => none

theorem GoO.new {op : Op} {d : Option Tmp} {ty : TypeId} (hop : opAt ops i env = some (op, d, ty)) (t : Nat) {cs : List Value} (hc : newCells C.P env op = some cs)
    (env' : Nat → Env) (hput : ∀ b, putE C.n env d (.pointer (some ⟨b, 0, none⟩)) = some (env' b)) (g : ∀ b, G (env' b) (⟨t, b, cs⟩ :: H) B o) :
    OpTo C ops i env H B o G := by
  refine GoO.op hop fun l w S hsat r hr => ?_
  obtain ⟨T, hrun⟩ : ∃ T, ∀ q : Oper, q.op = op → q.type = ty → (execOp (Act.eval ⟨⟨l⟩, []⟩) q).run C.P w = .ok (.value (.pointer (some ⟨w.heap.size, 0, none⟩))) { w with heap := w.heap.push (.cells ⟨cs⟩ T) } := by
    unfold newCells at hc
    split at hc
    · rename_i e x
      split at hc
      · rename_i v hv; cases hc
        refine ⟨e, fun q hq _ => ?_⟩
        simp [execOp, hq, Instr.box, newVar, newRow, evalE_ok hsat.env hv]
      · cases hc
    · rename_i e
      split at hc
      · rename_i inf hi
        split at hc
        · rename_i z hz; cases hc
          refine ⟨e, fun q hq _ => ?_⟩
          simp [execOp, hq, Instr.alloc, zeroValue, typeInfo, hi, hz, newVar, newRow]
        · cases hc
      · cases hc
    · cases hc
  have ha : Alloc w { w with heap := w.heap.push (.cells ⟨cs⟩ T) } (.cells ⟨cs⟩ T) := ⟨rfl, rfl, rfl, rfl⟩
  refine ⟨_, _, .inl hrun, env' w.heap.size, _, B, addS S t w.heap.size, hput _, fun l' h2 h1 => ?_, g w.heap.size⟩
  have := hsat.alloc ha t h1 h2
  refine ⟨this.wf, this.ext, h2, h1, ?_, this.bs⟩
  intro y hy
  cases hy with
  | head => exact ⟨.inr ⟨rfl, rfl⟩, T, ha.new⟩
  | tail _ hy => exact this.hs y hy

/-! ### Facts that cost nothing -/
theorem GoO.nilOwn {todo : List Item} {α : Type} (K : Kd α) (t : Nat) (g : GoO C env H (Ow t K none 0 [] :: B) todo o) : GoO C env H B todo o :=
  fun r hr l w S hs => g r hr l w S ⟨hs.wf, hs.ext, hs.len, hs.env, hs.hs, fun f hf => by
    cases hf with
    | head => exact .inl ⟨rfl, rfl, rfl⟩
    | tail _ hf => exact hs.bs f hf⟩
theorem GoO.nilRd {todo : List Item} {α : Type} (K : Kd α) (g : GoO C env H (Rd 0 K none 0 [] :: B) todo o) : GoO C env H B todo o :=
  fun r hr l w S hs => g r hr l w S ⟨hs.wf, hs.ext, hs.len, hs.env, hs.hs, fun f hf => by
    cases hf with
    | head => exact ⟨Nat.le_refl _, [], rfl, .inl rfl⟩
    | tail _ hf => exact hs.bs f hf⟩

/-- What follows from the facts at hand is one. -/
theorem GoO.have {todo : List Item} (f : Fct) (h : ∀ w S, HOk H w S → BOk B w S → f.ok w S) (g : GoO C env H (f :: B) todo o) : GoO C env H B todo o :=
  fun r hr l w S hs => g r hr l w S ⟨hs.wf, hs.ext, hs.len, hs.env, hs.hs, fun x hx => by
    cases hx with
    | head => exact h w S hs.hs hs.bs
    | tail _ hf => exact hs.bs x hf⟩

/-- A pure consequence of the facts at hand. -/
theorem GoO.know {todo : List Item} {p : Prop} (h : ∀ w S, HOk H w S → BOk B w S → p) (g : p → GoO C env H B todo o) : GoO C env H B todo o :=
  fun r hr l w S hs => g (h w S hs.hs hs.bs) r hr l w S hs

/-- A tag's blocks are given to another tag. -/
def mergeS (S : Fam) (t u : Nat) : Fam := fun v b => if v = u then S u b ∨ S t b else if v = t then False else S v b

/-- A row of one's own becomes memory that is only read, or another tag's. -/
theorem GoO.retag {todo : List Item} {t u : Nat} {j : Nat} {q : Q} {hk bk : List Nat} (htu : Nat.beq t u = false) (ht0 : Nat.beq t 0 = false) (hl : Nat.blt C.np t = true)
    (hf : B[j]? = some ⟨t, q⟩) (hH : picks H hk = some H') (hB : picks B bk = some B') (n1 : noTag t (H'.map (·.t)) = true) (n2 : noTag t (B'.map (·.t)) = true)
    (g : GoO C env H' (⟨u, q⟩ :: B') todo o) : GoO C env H B todo o := by
  intro r hr l w S hs
  have hne : t ≠ u := fun e => by subst e; simp at htu
  have h0 : t ≠ 0 := fun e => by subst e; simp at ht0
  have hloc : ∀ b, ¬ C.S0 t b := hs.wf t (Nat.le_of_ble_eq_true hl)
  have sub : ∀ v, v ≠ t → ∀ b, S v b → mergeS S t u v b := by
    intro v hv b hb
    unfold mergeS
    by_cases hvu : v = u
    · rw [if_pos hvu]; subst hvu; exact .inl hb
    · rw [if_neg hvu, if_neg hv]; exact hb
  have subt : ∀ b, S t b → mergeS S t u u b := fun b hb => by unfold mergeS; rw [if_pos rfl]; exact .inr hb
  have back : ∀ v b, mergeS S t u v b → S v b ∨ (v = u ∧ S t b) := by
    intro v b hb
    unfold mergeS at hb
    split at hb
    · rename_i hv; subst hv; exact hb.elim .inl fun h => .inr ⟨rfl, h⟩
    · split at hb
      · exact hb.elim
      · exact .inl hb
  refine g r hr l w (mergeS S t u) ⟨hs.wf, ⟨hs.ext.size, hs.ext.same, ⟨?_, ?_⟩, ?_, ?_, hs.ext.out, hs.ext.os, hs.ext.tape⟩, hs.len, hs.env, ?_, ?_⟩
  · intro v b hb
    rcases back v b hb with h | ⟨_, h⟩ <;> exact hs.ext.good.bd _ _ h
  · intro v v' b hb hb'
    rcases back v b hb with h | ⟨e, h⟩ <;> rcases back v' b hb' with h' | ⟨e', h'⟩
    · exact hs.ext.good.dj _ _ _ h h'
    · have := hs.ext.good.dj _ _ _ h h'
      subst this
      unfold mergeS at hb
      rw [if_neg hne, if_pos rfl] at hb
      exact hb.elim
    · have := hs.ext.good.dj _ _ _ h h'
      subst this
      unfold mergeS at hb'
      rw [if_neg hne, if_pos rfl] at hb'
      exact hb'.elim
    · rw [e, e']
  · intro v b hb hlt
    rcases back v b hb with h | ⟨e, h⟩
    · exact hs.ext.old v b h hlt
    · exact absurd (hs.ext.old t b h hlt) (hloc b)
  · intro b hb
    exact sub 0 (fun e => h0 e.symm) b (hs.ext.grow0 b hb)
  · intro x hx
    obtain ⟨h1, T, h2⟩ := hs.hs x (picks_mem hH x hx)
    exact ⟨sub x.t (noTag_ok n1 x.t (List.mem_map.2 ⟨x, hx, rfl⟩)) x.b h1, T, h2⟩
  · intro f hf'
    cases hf' with
    | head =>
      exact q.st (fun b hb hl => ⟨rfl, subt b hb⟩) (fun b hb hl => ⟨rfl, sub 0 (fun e => h0 e.symm) b hb⟩) (hs.bs _ (List.mem_of_getElem? hf))
    | tail _ hf' =>
      have := hs.bs f (picks_mem hB f hf')
      exact f.q.st (fun b hb hl => ⟨rfl, sub f.t (noTag_ok n2 f.t (List.mem_map.2 ⟨f, hf', rfl⟩)) b hb⟩) (fun b hb hl => ⟨rfl, sub 0 (fun e => h0 e.symm) b hb⟩) this

/-! ### Slicing -/
theorem RowIn.slice {α : Type} {K : Kd α} {w : World} {T R : Nat → Prop} {A : Option Addr} {c : Nat} {xs : List α} (h : RowIn K w T R A c xs) {lo hi m : Nat} (h1 : lo ≤ hi) (h2 : hi ≤ xs.length) (h3 : hi ≤ m) :
    RowIn K w T R (if m = lo then A else A.map fun a => a.add (lo * K.sz)) (m - lo) ((xs.take hi).drop lo) := by
  obtain ⟨vs, hel, hcs⟩ := h.ex
  have hl : ((xs.take hi).drop lo).length = hi - lo := by simp; omega
  refine ⟨by rw [hl]; omega, (vs.take (hi * K.sz)).drop (lo * K.sz), (hel.take hi).drop lo, ?_⟩
  by_cases hm : m = lo
  · left
    have : ((vs.take (hi * K.sz)).drop (lo * K.sz)).length = 0 := by
      rw [((hel.take hi).drop lo).length, hl]
      have : hi - lo = 0 := by omega
      rw [this]; simp
    exact List.eq_nil_of_length_eq_zero this
  · rw [if_neg hm]
    rcases hcs with rfl | ⟨b, off, cells, ty, fz, hA, hT, hb, hcell⟩
    · left; simp
    · right
      refine ⟨b, off + lo * K.sz, cells, ty, fz, by rw [hA]; simp [Addr.add_none], hT, hb, fun j u hu => ?_⟩
      rw [List.getElem?_drop, List.getElem?_take] at hu
      split at hu
      · have := hcell _ _ hu
        rwa [← Nat.add_assoc] at this
      · cases hu

/-- A bound of a slice expression. -/
def bnd (env : Env) (dflt : Int) : Option Operand → Option Int
  | none => some dflt
  | some x => match evalE env x with
    | some (.int _ n) => some n
    | _ => none

theorem GoO.slc {α : Type} {t : TypeId} {x : Operand} {lo hi : Option Operand} {d : Option Tmp} {ty e : TypeId} (hop : opAt ops i env = some (.slice t x lo hi none, d, ty))
    {K : Kd α} {A : Option Addr} {c n : Nat} {xs : List α} (hx : evalE env x = some (.slice A n c)) (he : elemTy C.P t = some e) (hsz : tySize C.P e = some K.sz)
    {j : Nat} {f : Fct} (hf : B[j]? = some f) (hrd : Reads f K A c xs) (hn : n = xs.length)
    {l h : Int} (hl : bnd env 0 lo = some l) (hh : bnd env (xs.length : Int) hi = some h) (h0 : 0 ≤ l) (h1 : l ≤ h) (h2 : h ≤ (xs.length : Int))
    (env' : Option Addr → Nat → Env) (hput : ∀ A' c', putE C.n env d (.slice A' ((xs.take h.toNat).drop l.toNat).length c') = some (env' A' c'))
    (g : ∀ A' c', G (env' A' c') H (Rd f.t K A' c' ((xs.take h.toNat).drop l.toNat) :: B) o) : OpTo C ops i env H B o G := by
  refine GoO.op hop fun lf w S hsat r hr => ?_
  have hrow := hrd w S (hsat.bs f (List.mem_of_getElem? hf))
  have hle := hrow.le
  obtain ⟨inf, hi', hs⟩ := tySize_ok hsz
  have hs1 := hrow.slice (lo := l.toNat) (hi := h.toNat) (m := c) (by omega) (by omega) (by omega)
  have hlen : ((xs.take h.toNat).drop l.toNat).length = h.toNat - l.toNat := by simp; omega
  refine ⟨_, w, .inl fun q hq _ => ?_, env' _ _, H, Rd f.t K _ _ _ :: B, S, hput (if c = l.toNat then A else A.map fun a => a.add (l.toNat * K.sz)) (c - l.toNat),
    fun l' h2 h1 => ⟨hsat.wf, hsat.ext, h2, h1, hsat.hs, ?_⟩, g _ _⟩
  · subst hn
    have eh : ∀ y, hi = some y → ∃ kk, Act.eval ⟨⟨lf⟩, []⟩ y = .int kk h := by
      intro y hy; subst hy
      simp only [bnd] at hh
      split at hh
      · rename_i kk m hm; cases hh; exact ⟨kk, evalE_ok hsat.env hm⟩
      · cases hh
    have el : ∀ y, lo = some y → ∃ kk, Act.eval ⟨⟨lf⟩, []⟩ y = .int kk l := by
      intro y hy; subst hy
      simp only [bnd] at hl
      split at hl
      · rename_i kk m hm; cases hl; exact ⟨kk, evalE_ok hsat.env hm⟩
      · cases hl
    have hb : (Instr.sliceBounds true xs.length c (lo.map (Act.eval ⟨⟨lf⟩, []⟩)) (hi.map (Act.eval ⟨⟨lf⟩, []⟩)) none).run C.P w = .ok (l.toNat, h.toNat, c) w := by
      have hc : h ≤ (c : Int) := by omega
      have h00 : 0 ≤ h := by omega
      have hlh : l ≤ (h.toNat : Int) := by omega
      cases hi with
      | none =>
        simp only [bnd] at hh; cases hh
        cases lo with
        | none => simp only [bnd] at hl; cases hl; simp [Instr.sliceBounds]
        | some y => obtain ⟨kk, hk⟩ := el y rfl; simp [Instr.sliceBounds, Instr.sliceBound, hk, asIntOf, h0, h1]
      | some z =>
        obtain ⟨kz, hkz⟩ := eh z rfl
        have hm : max h 0 = h := by omega
        have hnl : ¬ h < l := by omega
        cases lo with
        | none => simp only [bnd] at hl; cases hl; simp [Instr.sliceBounds, Instr.sliceBound, hkz, asIntOf, hc, h00]
        | some y => obtain ⟨kk, hk⟩ := el y rfl; simp [Instr.sliceBounds, Instr.sliceBound, hk, hkz, asIntOf, h0, h1, hc, h00, hlh, hm, hnl]
    simp only [execOp, hq, Option.map_none]
    simp [evalE_ok hsat.env hx, Instr.sliceAt, Instr.slice, run_underlying (elemTy_ok he), hb, sizeOf, typeInfo, hi', hs, hlen]
  · intro y hy
    cases hy with
    | head => exact hs1
    | tail _ hy => exact hsat.bs y hy

end
end Go.GL
