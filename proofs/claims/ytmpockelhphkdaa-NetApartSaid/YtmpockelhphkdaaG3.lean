import Derived.Test.YtmpockelhphkdaaG2
/-! Walks by symbolic states: known blocks; the executor. -/
set_option linter.unusedSimpArgs false
set_option linter.unusedVariables false
namespace Go.GL
open Go

/-! ### Frames -/
theorem EnvOk.put {env : Env} {l : List Value} (h : EnvOk env l) {d : Nat} (hd : d < l.length) (v : Value) : EnvOk ((d, v) :: env) (l.set d v) := by
  intro t u hu
  simp only [look] at hu
  split at hu
  · rename_i hb
    have := Nat.eq_of_beq_eq_true hb
    subst this
    cases hu
    simp [hd]
  · rename_i hb
    have hne : d ≠ t := fun e => by rw [e] at hb; simp at hb
    rw [List.getElem?_set_ne hne]
    exact h t u hu

/-- The frame behind an operation. -/
def putE (n : Nat) (env : Env) (d : Option Tmp) (v : Value) : Option Env :=
  match d with
  | none => some env
  | some d => match Nat.blt d n with
    | true => some ((d, v) :: env)
    | false => none

theorem putE_ok {n : Nat} {env env' : Env} {d : Option Tmp} {v : Value} (h : putE n env d v = some env') {l : List Value} (hn : l.length = n) (he : EnvOk env l) :
    EnvOk env' (putL l d v) ∧ (putL l d v).length = n := by
  unfold putE at h
  split at h
  · cases h; exact ⟨he, hn⟩
  · rename_i d
    split at h
    · rename_i hb; cases h
      have hlt : d < n := Nat.le_of_ble_eq_true hb
      exact ⟨he.put (hn ▸ hlt) v, by simp [putL, hn]⟩
    · cases h

/-! ### Writing one block -/
/-- The same memory but for one block, or none of the old ones. -/
structure Only (w w' : World) (b : Nat) : Prop where
  size : w.heap.size ≤ w'.heap.size
  same : ∀ k, k < w.heap.size → k ≠ b → w'.heap[k]? = w.heap[k]?
  out : w'.output = w.output
  os : w'.os = w.os
  tape : w'.tape = w.tape

theorem Only.ext {w0 w w' : World} {S0 S : Fam} {M : List Nat} {b t : Nat} (ho : Only w w' b) (h : Ext w0 S0 M w S) (hb : S t b) (ht : b < w0.heap.size → t ∈ M) : Ext w0 S0 M w' S :=
  ⟨Nat.le_trans h.size ho.size, fun k hk hm => by
      rw [← h.same k hk hm]
      refine ho.same k (Nat.lt_of_lt_of_le hk h.size) fun e => ?_
      subst e
      exact hm t (ht hk) (h.old t k hb hk),
    ⟨fun u k hk => Nat.lt_of_lt_of_le (h.good.bd u k hk) ho.size, h.good.dj⟩, h.old, h.grow0, ho.out.trans h.out, ho.os.trans h.os, ho.tape.trans h.tape⟩

theorem Only.fct {w w' : World} {S : Fam} {b t : Nat} (ho : Only w w' b) (hg : Good w S) (hb : S t b) {f : Fct} (ht : f.t ≠ t) (h0 : t ≠ 0) (h : f.ok w S) : f.ok w' S :=
  f.q.st (fun k hk hl => ⟨ho.same k hl fun e => by subst e; exact ht (hg.dj _ _ _ hk hb), hk⟩)
    (fun k hk hl => ⟨ho.same k hl fun e => by subst e; exact h0 (hg.dj _ _ _ hb hk), hk⟩) h

theorem Only.bx {w w' : World} {S : Fam} {b t : Nat} (ho : Only w w' b) (hg : Good w S) (hb : S t b) {x : Bx} (ht : x.t ≠ t) (h : x.ok w S) : x.ok w' S := by
  obtain ⟨h1, T, h2⟩ := h
  exact ⟨h1, T, by rw [ho.same x.b (hg.bd _ _ h1) fun e => ht (hg.dj _ _ _ h1 (e ▸ hb))]; exact h2⟩

/-- Tag t may be written: it is one of those that were promised, or the function's own. -/
def Mine {ρ : Type} (C : Cx ρ) (t : Nat) : Prop := t ∈ C.M ∨ ∀ b, ¬ C.S0 t b
theorem Mine.lt {ρ : Type} {C : Cx ρ} {t : Nat} (h : Mine C t) {w : World} {S : Fam} (he : Ext C.w0 C.S0 C.M w S) {b : Nat} (hb : S t b) : b < C.w0.heap.size → t ∈ C.M :=
  fun hl => h.elim id fun h => absurd (he.old t b hb hl) (h b)

/-! ### A known block: loads and stores -/
theorem box_cell {w : World} {b : Nat} {cs : List Value} {T : TypeId} {fz : Nat × Nat} (h : w.heap[b]? = some (.cells ⟨cs⟩ T fz)) (o : Nat) : w.cell? ⟨b, o, none⟩ = cs[o]? := by
  simp [World.cell?, h]

def loadBx (P : Program) (t : TypeId) (cs : List Value) (off : Nat) : Option Value :=
  match aggSize P t with
  | some (true, n) => match Nat.ble (off + n) cs.length with
    | true => some (.agg ⟨(cs.drop off).take n⟩)
    | false => none
  | some (false, _) => cs[off]?
  | none => none

theorem Addr.add_none (b o n : Nat) : (⟨b, o, none⟩ : Addr).add n = ⟨b, o + n, none⟩ := by
  unfold Addr.add; split <;> simp_all

theorem loadBx_ok {P : Program} {t : TypeId} {cs : List Value} {off : Nat} {v : Value} (h : loadBx P t cs off = some v) {w : World} {b : Nat} {T : TypeId} {fz : Nat × Nat}
    (hb : w.heap[b]? = some (.cells ⟨cs⟩ T fz)) : (Instr.loadAt t (.pointer (some ⟨b, off, none⟩))).run P w = .ok v w := by
  unfold loadBx at h
  split at h
  · rename_i n ha
    split at h
    · rename_i hle; cases h
      have hle : off + n ≤ cs.length := Nat.le_of_ble_eq_true hle
      obtain ⟨h1, h2⟩ := aggSize_ok ha w
      have hl : ((cs.drop off).take n).length = n := by simp; omega
      have := run_loadCells_list (P := P) w ⟨b, off, none⟩ ((cs.drop off).take n) (fun j u hu => by
        rw [Addr.add_none, box_cell hb]
        rw [List.getElem?_take] at hu
        split at hu
        · rwa [List.getElem?_drop] at hu
        · cases hu)
      rw [hl] at this
      simp [Instr.loadAt, Instr.sureAddr, loadVar, h1, h2, this]
    · cases h
  · rename_i n ha
    obtain ⟨h1, h2⟩ := aggSize_ok ha w
    simp [Instr.loadAt, Instr.sureAddr, loadVar, h1, box_cell hb, h]
  · cases h

def allOne : List Value → Bool
  | [] => true
  | v :: r => match v.oneCell' with
    | true => allOne r
    | false => false
theorem allOne_ok : ∀ {l : List Value}, allOne l = true → ∀ v ∈ l, v.oneCell' = true
  | v :: r, h, u, hu => by
    simp only [allOne] at h
    split at h
    · rename_i hv
      cases hu with
      | head => exact hv
      | tail _ hu => exact allOne_ok h u hu
    · cases h

def patch (cs : List Value) (off : Nat) (vs : List Value) : List Value := cs.take off ++ vs ++ cs.drop (off + vs.length)

def storeBx (P : Program) (t : TypeId) (cs : List Value) (off : Nat) (v : Value) : Option (List Value) :=
  match aggSize P t with
  | some (_, n) => match Nat.beq v.cells.toList.length n, Nat.ble (off + n) cs.length, allOne v.cells.toList with
    | true, true, true => some (patch cs off v.cells.toList)
    | _, _, _ => none
  | none => none

theorem storeBx_ok {P : Program} {t : TypeId} {cs cs' : List Value} {off : Nat} {v : Value} (h : storeBx P t cs off v = some cs') {w : World} {b : Nat} {T : TypeId}
    (hb : w.heap[b]? = some (.cells ⟨cs⟩ T (0, 0))) :
    ∃ w', (Instr.storeAt t (.pointer (some ⟨b, off, none⟩)) v).run P w = .ok () w' ∧ Only w w' b ∧ w'.heap[b]? = some (.cells ⟨cs'⟩ T (0, 0)) := by
  unfold storeBx at h
  split at h
  · rename_i n ha
    split at h
    · rename_i h1 h2 h3; cases h
      have h1 : v.cells.toList.length = n := Nat.eq_of_beq_eq_true h1
      have h2 : off + n ≤ cs.length := Nat.le_of_ble_eq_true h2
      obtain ⟨_, hs⟩ := aggSize_ok ha w
      have hst := run_storeCells_at P b off T v.cells.toList 0 ⟨cs⟩ w hb (by simp at h1 ⊢; omega) (allOne_ok h3)
      refine ⟨_, by simp at h1; simp [Instr.storeAt, Instr.sureAddr, storeVar, hs, h1, hst]; rfl, ?_, ?_⟩
      · exact ⟨by simp, fun k _ hk => setRow_other w b k _ hk, rfl, rfl, rfl⟩
      · rw [setRow_heap w b ⟨cs⟩ _ T _ hb]
        have h1' : v.cells.size = n := by simpa using h1
        simp [patch, h1', List.append_assoc]
    · cases h
  · cases h

/-! ### The executor -/
inductive Hint where
  | p
  | b (j : Nat)

def noTag (t : Nat) : List Nat → Bool
  | [] => true
  | u :: r => match Nat.beq u t with
    | true => false
    | false => noTag t r
theorem noTag_ok {t : Nat} : ∀ {l : List Nat}, noTag t l = true → ∀ u ∈ l, u ≠ t
  | u :: r, h, x, hx => by
    simp only [noTag] at h
    split at h
    · cases h
    · rename_i hb
      cases hx with
      | head => intro e; rw [e] at hb; simp at hb
      | tail _ hx => exact noTag_ok h x hx

/-- May tag t be written? -/
def mineB (M : List Nat) (np t : Nat) : Bool :=
  match Nat.beq t 0 with
  | true => false
  | false => match Nat.blt np t with
    | true => true
    | false => match noTag t M with
      | true => false
      | false => true

theorem mem_of_noTag {t : Nat} : ∀ {M : List Nat}, noTag t M = false → t ∈ M
  | u :: r, h => by
    simp only [noTag] at h
    split at h
    · rename_i hb; rw [Nat.eq_of_beq_eq_true hb]; simp
    · exact List.mem_cons_of_mem _ (mem_of_noTag h)

theorem mineB_ok {ρ : Type} {C : Cx ρ} (hw : ∀ t, C.np < t → ∀ b, ¬ C.S0 t b) {t : Nat} (h : mineB C.M C.np t = true) : Mine C t ∧ t ≠ 0 := by
  unfold mineB at h
  split at h
  · cases h
  · rename_i h0
    refine ⟨?_, fun e => by rw [e] at h0; simp at h0⟩
    split at h
    · rename_i hb; exact .inr (hw t (Nat.le_of_ble_eq_true hb))
    · split at h
      · cases h
      · rename_i hm; exact .inl (mem_of_noTag hm)

/-- May box j be written? -/
def soleB (M : List Nat) (np t j : Nat) (H : List Bx) (bt : List Nat) : Bool :=
  match mineB M np t, noTag t ((H.eraseIdx j).map (·.t)), noTag t bt with
  | true, true, true => true
  | _, _, _ => false

def ex1 (P : Program) (M : List Nat) (np n : Nat) (ops : Array Oper) (bt : List Nat) (i : Nat) (hint : Hint) (env : Env) (H : List Bx) : Option (Env × List Bx × List Prop) :=
  match ops[i]? with
  | none => none
  | some o => match wantedE ops env o with
    | none => none
    | some false => match putE n env o.dst undef with
      | some env' => some (env', H, [])
      | none => none
    | some true => match hint with
      | .p => match exV P env o.op with
        | some (v, ps) => match putE n env o.dst v with
          | some env' => some (env', H, ps)
          | none => none
        | none => none
      | .b j => match H[j]? with
        | none => none
        | some x => match o.op with
          | .load t a => match evalE env a with
            | some (.pointer (some ⟨b, off, none⟩)) => match loadBx P t x.cs off with
              | some v => match putE n env o.dst v with
                | some env' => some (env', H, [b = x.b])
                | none => none
              | none => none
            | _ => none
          | .store t a u => match evalE env a, evalE env u with
            | some (.pointer (some ⟨b, off, none⟩)), some v => match storeBx P t x.cs off v, soleB M np x.t j H bt with
              | some cs', true => match putE n env o.dst undef with
                | some env' => some (env', H.set j ⟨x.t, x.b, cs'⟩, [b = x.b])
                | none => none
              | _, _ => none
            | _, _ => none
          | _ => none

section
variable {ρ : Type} {C : Cx ρ} {env env' : Env} {H H' : List Bx} {B B' : List Fct} {k : List Item} {o : Option ρ} {l : List Value} {w : World} {S : Fam}

/-- One operation that only computes, at a known frame. -/
theorem Sat.op_value (hs : Sat C env H B l w S) {ops : Array Oper} {i : Nat} {rest : List Nat} {q : Oper} (hq : ops[i]? = some q) (hw : wantedE ops env q = some true) {v : Value} {w' : World}
    (hr : (execOp (Act.eval ⟨⟨l⟩, []⟩) q).run C.P w = .ok (.value v) w' ∨ ((execOp (Act.eval ⟨⟨l⟩, []⟩) q).run C.P w = .ok .skip w' ∧ v = undef)) {R : Ending → World → Prop}
    (h : Runs C.P C.f (.inRegion ops rest :: k) (putL l q.dst v) w' R) : Runs C.P C.f (.inRegion ops (i :: rest) :: k) l w R :=
  h.step fun _ _ _ => step_op_ok hq (wantedE_ok hs.env hw) hr

theorem ex1_run {ops : Array Oper} {i : Nat} {hint : Hint} {ps : List Prop} (h : ex1 C.P C.M C.np C.n ops (B.map (·.t)) i hint env H = some (env', H', ps)) (hp : AllP ps)
    (hs : Sat C env H B l w S) :
    ∃ q, ops[i]? = some q ∧
      ((Region.wanted q (yielded ops ⟨l⟩) = true ∧ ∃ v w', ((execOp (Act.eval ⟨⟨l⟩, []⟩) q).run C.P w = .ok (.value v) w' ∨ ((execOp (Act.eval ⟨⟨l⟩, []⟩) q).run C.P w = .ok .skip w' ∧ v = undef)) ∧ Sat C env' H' B (putL l q.dst v) w' S) ∨
       (Region.wanted q (yielded ops ⟨l⟩) = false ∧ Sat C env' H' B (putL l q.dst undef) w S)) := by
  unfold ex1 at h
  split at h
  · cases h
  · rename_i q hq
    split at h
    · cases h
    · rename_i hw
      split at h
      · rename_i hput; cases h
        obtain ⟨h1, h2⟩ := putE_ok hput hs.len hs.env
        exact ⟨q, hq, .inr ⟨wantedE_ok hs.env hw, ⟨hs.wf, hs.ext, h2, h1, hs.hs, hs.bs⟩⟩⟩
      · cases h
    · rename_i hw
      split at h
      · split at h
        · rename_i v ps' hv
          split at h
          · rename_i hput; cases h
            obtain ⟨h1, h2⟩ := putE_ok hput hs.len hs.env
            exact ⟨q, hq, .inl ⟨wantedE_ok hs.env hw, _, w, .inl (exV_ok hs.env hv hp w), ⟨hs.wf, hs.ext, h2, h1, hs.hs, hs.bs⟩⟩⟩
          · cases h
        · cases h
      · rename_i j
        split at h
        · cases h
        · rename_i x hx
          obtain ⟨hxs, T, hxb⟩ := hs.hs x (List.mem_of_getElem? hx)
          split at h
          · rename_i t a hop
            split at h
            · rename_i b off ha
              split at h
              · rename_i v hv
                split at h
                · rename_i hput; cases h
                  simp only [AllP] at hp
                  obtain ⟨h1, h2⟩ := putE_ok hput hs.len hs.env
                  refine ⟨q, hq, .inl ⟨wantedE_ok hs.env hw, _, w, .inl ?_, ⟨hs.wf, hs.ext, h2, h1, hs.hs, hs.bs⟩⟩⟩
                  have := loadBx_ok hv hxb
                  rw [← hp.1] at this
                  simp [execOp, hop, evalE_ok hs.env ha, this]
                · cases h
              · cases h
            · cases h
          · rename_i t a u hop
            split at h
            · rename_i b off v ha hu
              split at h
              · rename_i cs' hv hsole
                split at h
                · rename_i hput; cases h
                  simp only [AllP] at hp
                  obtain ⟨h1, h2⟩ := putE_ok hput hs.len hs.env
                  obtain ⟨w', hrun, honly, hcell⟩ := storeBx_ok hv hxb
                  unfold soleB at hsole
                  split at hsole
                  · rename_i m1 m2 m3
                    obtain ⟨hm, h0⟩ := mineB_ok hs.wf m1
                    have n2 := noTag_ok m2
                    have n3 := noTag_ok m3
                    refine ⟨q, hq, .inl ⟨wantedE_ok hs.env hw, _, w', .inr ⟨?_, rfl⟩, ⟨hs.wf, honly.ext hs.ext hxs (hm.lt hs.ext hxs), h2, h1, ?_, ?_⟩⟩⟩
                    · rw [← hp.1] at hrun
                      simp [execOp, hop, evalE_ok hs.env ha, evalE_ok hs.env hu, hrun]
                    · intro y hy
                      have hy := List.mem_iff_getElem?.1 hy
                      obtain ⟨m, hm⟩ := hy
                      by_cases hjm : j = m
                      · subst hjm
                        have hlt : j < H.length := (List.getElem?_eq_some_iff.1 hx).1
                        rw [List.getElem?_set_self hlt] at hm
                        cases hm
                        exact ⟨hxs, T, hcell⟩
                      · rw [List.getElem?_set_ne hjm] at hm
                        have : y ∈ H.eraseIdx j := (List.mem_eraseIdx_iff_getElem?).2 ⟨m, fun e => hjm e.symm, hm⟩
                        exact honly.bx hs.ext.good hxs (n2 y.t (List.mem_map.2 ⟨y, this, rfl⟩)) (hs.hs y (List.mem_of_getElem? hm))
                    · intro f hf
                      exact honly.fct hs.ext.good hxs (n3 f.t (List.mem_map.2 ⟨f, hf, rfl⟩)) h0 (hs.bs f hf)
                  · cases hsole
                · cases h
              · cases h
            · cases h
          · cases h

theorem ex1_ok {ops : Array Oper} {i : Nat} {hint : Hint} {rest : List Nat} {ps : List Prop} (h : ex1 C.P C.M C.np C.n ops (B.map (·.t)) i hint env H = some (env', H', ps)) (hp : AllP ps)
    (hs : Sat C env H B l w S) {R : Ending → World → Prop} (g : ∀ l' w', Sat C env' H' B l' w' S → Runs C.P C.f (.inRegion ops rest :: k) l' w' R) :
    Runs C.P C.f (.inRegion ops (i :: rest) :: k) l w R := by
  obtain ⟨q, hq, ⟨hw, v, w', hrun, hs'⟩ | ⟨hw, hs'⟩⟩ := ex1_run h hp hs
  · exact (g _ _ hs').step fun _ _ _ => step_op_ok hq hw hrun
  · exact (g _ _ hs').step fun _ _ _ => step_op_no hq hw

def exN (P : Program) (M : List Nat) (np n : Nat) (ops : Array Oper) (bt : List Nat) : List Nat → List Hint → Env → List Bx → Option (Env × List Bx × List Prop)
  | i :: is, h :: hs, env, H => match ex1 P M np n ops bt i h env H with
    | some (env', H', ps) => match exN P M np n ops bt is hs env' H' with
      | some (env'', H'', qs) => some (env'', H'', ps ++ qs)
      | none => none
    | none => none
  | _, _, env, H => some (env, H, [])

theorem exN_ok {ops : Array Oper} {R : Ending → World → Prop} : ∀ {is : List Nat} {hs : List Hint} {env : Env} {H : List Bx} {l : List Value} {w : World} {ps : List Prop}, is.length = hs.length →
    exN C.P C.M C.np C.n ops (B.map (·.t)) is hs env H = some (env', H', ps) → AllP ps →
    Sat C env H B l w S → ∀ {rest : List Nat}, (∀ l' w', Sat C env' H' B l' w' S → Runs C.P C.f (.inRegion ops rest :: k) l' w' R) → Runs C.P C.f (.inRegion ops (is ++ rest) :: k) l w R
  | [], [], env, H, l, w, ps, _, h, hp, hs, rest, g => by simp only [exN] at h; cases h; exact g _ _ hs
  | i :: is, q :: hs, env, H, l, w, ps, hl, h, hp, hsat, rest, g => by
    simp only [exN] at h
    split at h
    · rename_i env1 H1 ps1 h1
      split at h
      · rename_i env2 H2 ps2 h2
        cases h
        obtain ⟨hp1, hp2⟩ := AllP.app.1 hp
        exact ex1_ok h1 hp1 hsat fun l' w' hs' => exN_ok (by simpa using hl) h2 hp2 hs' g
      · cases h
    · cases h

def exS (P : Program) (M : List Nat) (np n : Nat) (ops : Array Oper) (bt : List Nat) (is : List Nat) (hs : List Hint) (env : Env) (H : List Bx) (ks : List Nat) : Option (Env × List Bx × List Prop) :=
  match Nat.beq is.length hs.length with
  | true => match exN P M np n ops bt is hs env H with
    | some (env', H', ps) => match looks ks env' with
      | some env'' => some (env'', H', ps)
      | none => none
    | none => none
  | false => none

/-- A stretch of operations that compute, and load and store at known blocks. -/
theorem GoO.exec {ops : Array Oper} {is : List Nat} {hs : List Hint} {rest : List Nat} {ks : List Nat} {ps : List Prop}
    (h : exS C.P C.M C.np C.n ops (B.map (·.t)) is hs env H ks = some (env', H', ps)) (hp : AllP ps) (g : GoO C env' H' B (.inRegion ops rest :: k) o) :
    GoO C env H B (.inRegion ops (is ++ rest) :: k) o := by
  intro r hr l w S hsat
  unfold exS at h
  split at h
  · rename_i hl
    split at h
    · rename_i env1 H1 ps1 h1
      split at h
      · rename_i env2 hk
        cases h
        exact exN_ok (Nat.eq_of_beq_eq_true hl) h1 hp hsat fun l' w' hs' =>
          g r hr l' w' S ⟨hs'.wf, hs'.ext, hs'.len, fun t v ht => hs'.env t v (looks_ok hk t v ht), hs'.hs, hs'.bs⟩
      · cases h
    · cases h
  · cases h

end
end Go.GL
