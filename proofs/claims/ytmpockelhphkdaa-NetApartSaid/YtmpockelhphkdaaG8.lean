import Derived.Test.YtmpockelhphkdaaG7
/-! Walks by symbolic states: entering, returning, calling. -/
set_option linter.unusedVariables false
set_option linter.unusedSimpArgs false
namespace Go.GL
open Go

/-- A function's contract: called in memory that is as H and B say (in the callee's own tags: 0 what is only read, 1 to np what came in), it returns as R says,
    and has written blocks of the tags in M alone; wherever the pure program answers. -/
def Meets {ρ : Type} (P : Program) (f : FuncId) (args : List Value) (np : Nat) (M : List Nat) (H : List Bx) (B : List Fct) (o : Option ρ) (R : Pst ρ) : Prop :=
  ∀ r, o = some r → ∀ w S, Good w S → (∀ t, np < t → ∀ b, ¬ S t b) → HOk H w S → BOk B w S →
    Calls P f ⟨args⟩ w fun e w' => ∃ x S', e = .returned (R.v r x) ∧ Ext w S M w' S' ∧ HOk (R.H r x) w' S' ∧ BOk (R.B r x) w' S'

def numbered {α : Type} : Nat → List α → List (Nat × α)
  | _, [] => []
  | n, x :: r => (n, x) :: numbered (n + 1) r

theorem envOk_numbered : ∀ (args : List Value) (n : Nat) (pre post : List Value), pre.length = n → EnvOk (numbered n args) (pre ++ args ++ post)
  | [], n, pre, post, _, t, v, h => by simp [numbered, look] at h
  | x :: r, n, pre, post, hn, t, v, h => by
    simp only [numbered, look] at h
    split at h
    · rename_i hb
      have := Nat.eq_of_beq_eq_true hb
      subst this
      cases h
      subst hn
      simp
    · have := envOk_numbered r (n + 1) (pre ++ [x]) post (by simp [hn]) t v h
      simpa using this

theorem Meets.of {ρ : Type} {P : Program} {f : FuncId} {fn : Func} {c : Code} {n : Nat} {args : List Value} {np : Nat} {M : List Nat} {H : List Bx} {B : List Fct} {o : Option ρ} {R : Pst ρ}
    (hf : P.funcs[f]? = some fn) (hb : fn.body = some c) (hn : Nat.beq fn.ntmps n = true) (hl : Nat.ble args.length n = true)
    (g : ∀ w0 S0, GoO ⟨P, f, fn, n, w0, S0, M, np, R⟩ (numbered 0 args) H B [.code c] o) : Meets P f args np M H B o R := by
  intro r hr w S hg hnp hH hB
  have hn := Nat.eq_of_beq_eq_true hn
  have hl := Nat.le_of_ble_eq_true hl
  refine calls_of_runs hf hb ?_
  refine g w S r hr _ w S ⟨hnp, Ext.refl M hg, ?_, ?_, hH, hB⟩
  · show (args ++ List.replicate (fn.ntmps - args.length) undef).length = n
    rw [List.length_append, List.length_replicate]; omega
  · have := envOk_numbered args 0 [] (List.replicate (fn.ntmps - args.length) undef) rfl
    simpa using this

/-! ### Returning -/
def retVs (P : Program) (env : Env) (H : List Bx) : List ResultVar → List Nat → Option (List Value × List Prop)
  | [], _ => some ([], [])
  | .tmp t :: r, hs => match look t env with
    | some v => match retVs P env H r hs with
      | some (vs, ps) => some (v :: vs, ps)
      | none => none
    | none => none
  | .cell a t :: r, j :: hs => match look a env with
    | some (.pointer (some ⟨b, off, none⟩)) => match H[j]? with
      | some x => match loadBx P t x.cs off with
        | some v => match retVs P env H r hs with
          | some (vs, ps) => some (v :: vs, (b = x.b) :: ps)
          | none => none
        | none => none
      | none => none
    | _ => none
  | .cell _ _ :: _, [] => none

def retV (P : Program) (env : Env) (H : List Bx) (rs : List ResultVar) (hs : List Nat) : Option (Value × List Prop) :=
  match retVs P env H rs hs with
  | some ([v], ps) => some (v, ps)
  | some (vs, ps) => some (.tuple ⟨vs⟩, ps)
  | none => none

section
variable {ρ : Type} {C : Cx ρ} {env env' : Env} {H H' : List Bx} {B B' : List Fct} {k : List Item} {o : Option ρ} {ops : Array Oper} {rest : List Nat} {i : Nat} {G : Env → List Bx → List Fct → Option ρ → Prop}

def resS (l : List Value) : ResultVar → Sem Value
  | .tmp t => pure ((⟨l⟩ : Array Value).getD t undef)
  | .cell a t => do loadVar t (← asAddr ((⟨l⟩ : Array Value).getD a undef))

theorem results_eq (fn : Func) (l : List Value) : results fn ⟨l⟩ = (do let vs ← fn.results.mapM (resS l); pure (if h : vs.size = 1 then vs[0] else .tuple vs)) := by
  unfold results
  congr 1

theorem retVs_ok {l : List Value} {w : World} {S : Fam} (he : EnvOk env l) (hH : HOk H w S) : ∀ {rs : List ResultVar} {hs : List Nat} {vs : List Value} {ps : List Prop}, retVs C.P env H rs hs = some (vs, ps) → AllP ps →
    (rs.mapM (resS l)).run C.P w = .ok vs w
  | [], hs, vs, ps, h, _ => by simp only [retVs] at h; cases h; simp
  | .tmp t :: r, hs, vs, ps, h, hp => by
    simp only [retVs] at h
    split at h
    · rename_i v hv
      split at h
      · rename_i vs' ps' hr; cases h
        have ih := retVs_ok he hH hr hp
        have hg : (⟨l⟩ : Array Value).getD t undef = v := by have := he t v hv; simp [this]
        rw [List.mapM_cons]
        simp only [resS, Sem.run_bind, Sem.run_pure, Result.andThen_ok, hg, ih]
      · cases h
    · cases h
  | .cell a t :: r, j :: hs, vs, ps, h, hp => by
    simp only [retVs] at h
    split at h
    · rename_i b off hv
      split at h
      · rename_i x hx
        split at h
        · rename_i v hl
          split at h
          · rename_i vs' ps' hr; cases h
            have ih := retVs_ok he hH hr hp.2
            have hg : (⟨l⟩ : Array Value).getD a undef = .pointer (some ⟨b, off, none⟩) := by have := he a _ hv; simp [this]
            obtain ⟨_, T, hc⟩ := hH x (List.mem_of_getElem? hx)
            have hld := loadBx_ok hl hc
            rw [← hp.1] at hld
            simp only [Instr.loadAt, Instr.sureAddr, Sem.run_bind, Sem.run_pure, Result.andThen_ok] at hld
            rw [List.mapM_cons]
            simp only [resS, Sem.run_bind, Sem.run_pure, Result.andThen_ok, hg, asAddr, hld, ih]
          · cases h
        · cases h
      · cases h
    · cases h
  | .cell _ _ :: _, [], _, _, h, _ => by simp [retVs] at h

theorem retV_ok {l : List Value} {w : World} {S : Fam} (he : EnvOk env l) (hH : HOk H w S) {fn : Func} {hs : List Nat} {v : Value} {ps : List Prop} (h : retV C.P env H fn.results.toList hs = some (v, ps)) (hp : AllP ps) :
    (results fn ⟨l⟩).run C.P w = .ok v w := by
  have key : ∀ vs, (fn.results.toList.mapM (resS l)).run C.P w = .ok vs w →
      (results fn ⟨l⟩).run C.P w = .ok (if h : vs.toArray.size = 1 then vs.toArray[0] else .tuple vs.toArray) w := by
    intro vs hvs
    rw [results_eq, Array.mapM_eq_mapM_toList, ← bind_pure_comp]
    simp only [Sem.run_bind, Sem.run_pure]
    rw [hvs]
    simp
  unfold retV at h
  split at h
  · rename_i v' ps' hr; cases h
    rw [key _ (retVs_ok he hH hr hp)]
    simp
  · rename_i vs ps' hne hr; cases h
    rw [key _ (retVs_ok he hH hr hp)]
    have : ¬ (vs.toArray.size = 1) := by
      intro h1
      obtain ⟨u, hu⟩ := List.length_eq_one_iff.1 (by simpa using h1 : vs.length = 1)
      exact hne u hu
    rw [dif_neg this]
  · cases h

theorem Runs.leave {l : List Value} {w : World} {R : Ending → World → Prop} {todo : List Item} {v : Value} (hfn : C.P.funcs[C.f]? = some C.fn) (hv : (results C.fn ⟨l⟩).run C.P w = .ok v w)
    (hs : ∀ (b : Frame) (cs : List Frame), Go.step C.P (lone (b.at ⟨⟨l⟩, []⟩ todo) cs w) = .next (lone { b.at ⟨⟨l⟩, []⟩ todo with mode := .returning } cs w)) (hR : R (.returned v) w) : Runs C.P C.f todo l w R := by
  intro b cs hb hk
  refine ⟨.returned v, w, _, hR, .one (hs b cs), hb, rfl, rfl, hk, C.fn, ?_, hv⟩
  show C.P.funcs[b.fn]? = some C.fn
  rw [hb]; exact hfn

theorem GoO.ret {r : ρ} {hs : List Nat} {ps : List Prop} {hk bk : List Nat} (hfn : C.P.funcs[C.f]? = some C.fn) (x : C.R.ε) (hv : retV C.P env H C.fn.results.toList hs = some (C.R.v r x, ps)) (hp : AllP ps)
    (hH : picks H hk = some (C.R.H r x)) (hB : picks B bk = some (C.R.B r x)) : GoO C env H B (.code .ret :: k) (some r) := by
  intro r' hr l w S hsat
  cases hr
  refine Runs.leave hfn (retV_ok hsat.env hsat.hs hv hp) (fun b cs => step_ret) ⟨x, S, rfl, hsat.ext, fun y hy => hsat.hs y (picks_mem hH y hy), fun y hy => hsat.bs y (picks_mem hB y hy)⟩

theorem GoO.fin {r : ρ} {hs : List Nat} {ps : List Prop} {hk bk : List Nat} (hfn : C.P.funcs[C.f]? = some C.fn) (x : C.R.ε) (hv : retV C.P env H C.fn.results.toList hs = some (C.R.v r x, ps)) (hp : AllP ps)
    (hH : picks H hk = some (C.R.H r x)) (hB : picks B bk = some (C.R.B r x)) : GoO C env H B [] (some r) := by
  intro r' hr l w S hsat
  cases hr
  refine Runs.leave hfn (retV_ok hsat.env hsat.hs hv hp) (fun b cs => step_end) ⟨x, S, rfl, hsat.ext, fun y hy => hsat.hs y (picks_mem hH y hy), fun y hy => hsat.bs y (picks_mem hB y hy)⟩

/-! ### Calling -/
/-- The callee's tags, in the caller's. -/
def pull (S : Fam) (τ : List (List Nat)) : Fam := fun u b => ∃ ts, τ[u]? = some ts ∧ ∃ t, t ∈ ts ∧ S t b

def lookN (t : Nat) : List (Nat × Nat) → Option Nat
  | [] => none
  | (a, b) :: r => match Nat.beq t a with
    | true => some b
    | false => lookN t r

theorem lookN_mem {t u : Nat} : ∀ {σ : List (Nat × Nat)}, lookN t σ = some u → (t, u) ∈ σ
  | (a, b) :: r, h => by
    simp only [lookN] at h
    split at h
    · rename_i hb; have := Nat.eq_of_beq_eq_true hb; subst this; cases h; simp
    · exact List.mem_cons_of_mem _ (lookN_mem h)

/-- The caller's tags behind a call. -/
def after (S S' : Fam) (n : Nat) (σ : List (Nat × Nat)) : Fam := fun t b =>
  match lookN t σ with
  | some u => S' u b
  | none => if t = 0 then S 0 b ∨ (S' 0 b ∧ n ≤ b) else S t b

/-- A callee's tag as the caller's. -/
def ren (σ : List (Nat × Nat)) (u : Nat) : Nat :=
  match σ with
  | [] => 0
  | (t, v) :: r => match Nat.beq u v with
    | true => t
    | false => ren r u

theorem ren_mem {u : Nat} : ∀ {σ : List (Nat × Nat)}, ren σ u ≠ 0 → (ren σ u, u) ∈ σ
  | [], h => absurd rfl h
  | (t, v) :: r, h => by
    simp only [ren] at h ⊢
    split
    · rename_i hb; have := Nat.eq_of_beq_eq_true hb; subst this; simp
    · rename_i hb; rw [hb] at h; exact List.mem_cons_of_mem _ (ren_mem h)

def Bx.ren (σ : List (Nat × Nat)) (x : Bx) : Bx := ⟨GL.ren σ x.t, x.b, x.cs⟩
def Fct.ren (σ : List (Nat × Nat)) (x : Fct) : Fct := ⟨GL.ren σ x.t, x.q⟩

def memB (t : Nat) (l : List Nat) : Bool := match noTag t l with | true => false | false => true
theorem memB_ok {t : Nat} {l : List Nat} (h : memB t l = true) : t ∈ l := by
  unfold memB at h; split at h
  · cases h
  · exact mem_of_noTag (by assumption)

/-- The callee's boxes and facts out of the caller's: (callee's tag, place). -/
def mapH (τ : List (List Nat)) (H : List Bx) : List (Nat × Nat) → Option (List Bx)
  | [] => some []
  | (u, j) :: r => match H[j]?, τ[u]?, mapH τ H r with
    | some x, some ts, some l => match memB x.t ts with
      | true => some (⟨u, x.b, x.cs⟩ :: l)
      | false => none
    | _, _, _ => none
def mapB (τ : List (List Nat)) (B : List Fct) : List (Nat × Nat) → Option (List Fct)
  | [] => some []
  | (u, j) :: r => match B[j]?, τ[u]?, mapB τ B r with
    | some x, some ts, some l => match memB x.t ts with
      | true => some (⟨u, x.q⟩ :: l)
      | false => none
    | _, _, _ => none

theorem mapH_ok {τ : List (List Nat)} {w : World} {S : Fam} (hH : HOk H w S) : ∀ {js : List (Nat × Nat)} {l : List Bx}, mapH τ H js = some l → HOk l w (pull S τ)
  | [], l, h => by simp only [mapH] at h; cases h; intro x hx; cases hx
  | (u, j) :: r, l, h => by
    simp only [mapH] at h
    split at h
    · rename_i x ts l' hx ht hl
      split at h
      · rename_i hm; cases h
        intro y hy
        cases hy with
        | head => obtain ⟨h1, T, h2⟩ := hH x (List.mem_of_getElem? hx); exact ⟨⟨ts, ht, x.t, memB_ok hm, h1⟩, T, h2⟩
        | tail _ hy => exact mapH_ok hH hl y hy
      · cases h
    · cases h

theorem mapB_ok {τ : List (List Nat)} {w : World} {S : Fam} (hB : BOk B w S) (h0 : ∃ ts, τ[0]? = some ts ∧ 0 ∈ ts) : ∀ {js : List (Nat × Nat)} {l : List Fct}, mapB τ B js = some l → BOk l w (pull S τ)
  | [], l, h => by simp only [mapB] at h; cases h; intro x hx; cases hx
  | (u, j) :: r, l, h => by
    simp only [mapB] at h
    split at h
    · rename_i x ts l' hx ht hl
      split at h
      · rename_i hm; cases h
        intro y hy
        cases hy with
        | head =>
          obtain ⟨t0, e0, m0⟩ := h0
          exact x.q.st (fun b hb _ => ⟨rfl, ts, ht, x.t, memB_ok hm, hb⟩) (fun b hb _ => ⟨rfl, t0, e0, 0, m0, hb⟩) (hB x (List.mem_of_getElem? hx))
        | tail _ hy => exact mapB_ok hB ⟨_, h0.choose_spec.1, h0.choose_spec.2⟩ hl y hy
      · cases h
    · cases h

/-- Do the tags of a call fit together? -/
def tagsFit (M : List Nat) (np npG : Nat) (MG : List Nat) (τ : List (List Nat)) (σ : List (Nat × Nat)) : Bool :=
  -- tag 0 is read only in both; no caller's tag serves two of the callee's
  (match τ[0]? with | some ts => memB 0 ts | none => false) && decide (τ.flatten.Nodup) && Nat.ble τ.length (npG + 1) &&
  -- what is written comes back under its own tag
  MG.all (fun u => match τ[u]? with | some ts => ts.all (fun t => mineB M np t && (match lookN t σ with | some v => Nat.beq v u | none => false)) | none => true) &&
  -- what comes back: each tag once, none of them 0, and its old blocks were the callee's under that tag
  decide ((σ.map (·.1)).Nodup) && decide ((σ.map (·.2)).Nodup) && σ.all (fun p => match Nat.beq p.1 0, Nat.beq p.2 0 with
    | false, false => match τ[p.2]? with | some ts => ts.all (fun t => Nat.beq t p.1) | none => true
    | _, _ => false)

structure Fit (M : List Nat) (np npG : Nat) (MG : List Nat) (τ : List (List Nat)) (σ : List (Nat × Nat)) : Prop where
  zero : ∃ ts, τ[0]? = some ts ∧ 0 ∈ ts
  apart : ∀ (u v : Nat) (ts us : List Nat) (t : Nat), τ[u]? = some ts → τ[v]? = some us → t ∈ ts → t ∈ us → u = v
  short : τ.length ≤ npG + 1
  back : ∀ u, u ∈ MG → ∀ ts, τ[u]? = some ts → ∀ t, t ∈ ts → mineB M np t = true ∧ lookN t σ = some u
  one : ∀ t t' u, lookN t σ = some u → lookN t' σ = some u → t = t'
  nz : ∀ t u, lookN t σ = some u → t ≠ 0 ∧ u ≠ 0 ∧ ∀ ts, τ[u]? = some ts → ∀ t', t' ∈ ts → t' = t
  ren : ∀ u, GL.ren σ u ≠ 0 → lookN (GL.ren σ u) σ = some u

theorem nodup_flatten_apart : ∀ {τ : List (List Nat)}, τ.flatten.Nodup → ∀ (u v : Nat) (ts us : List Nat) (t : Nat), τ[u]? = some ts → τ[v]? = some us → t ∈ ts → t ∈ us → u = v
  | [], _, u, v, ts, us, t, h, _, _, _ => by simp at h
  | x :: r, hn, u, v, ts, us, t, h1, h2, m1, m2 => by
    rw [List.flatten_cons, List.nodup_append] at hn
    obtain ⟨_, hn2, hd⟩ := hn
    cases u with
    | zero =>
      cases v with
      | zero => rfl
      | succ v =>
        simp at h1 h2; subst h1
        exact absurd rfl (hd t m1 t (List.mem_flatten.2 ⟨us, List.mem_of_getElem? h2, m2⟩))
    | succ u =>
      cases v with
      | zero =>
        simp at h1 h2; subst h2
        exact absurd rfl (hd t m2 t (List.mem_flatten.2 ⟨ts, List.mem_of_getElem? h1, m1⟩))
      | succ v =>
        simp at h1 h2
        rw [nodup_flatten_apart hn2 u v ts us t h1 h2 m1 m2]

theorem lookN_of_mem {t u : Nat} : ∀ {σ : List (Nat × Nat)}, (σ.map (·.1)).Nodup → (t, u) ∈ σ → lookN t σ = some u
  | (a, b) :: r, hn, h => by
    simp only [List.map_cons, List.nodup_cons] at hn
    simp only [lookN]
    cases h with
    | head => simp
    | tail _ h =>
      split
      · rename_i hb
        have := Nat.eq_of_beq_eq_true hb
        subst this
        exact absurd (List.mem_map.2 ⟨_, h, rfl⟩) hn.1
      · exact lookN_of_mem hn.2 h

theorem fst_unique {t t' u : Nat} : ∀ {σ : List (Nat × Nat)}, (σ.map (·.2)).Nodup → (t, u) ∈ σ → (t', u) ∈ σ → t = t'
  | (a, b) :: r, hn, h, h' => by
    simp only [List.map_cons, List.nodup_cons] at hn
    cases h with
    | head =>
      cases h' with
      | head => rfl
      | tail _ h' => exact absurd (List.mem_map.2 ⟨_, h', rfl⟩) hn.1
    | tail _ h =>
      cases h' with
      | head => exact absurd (List.mem_map.2 ⟨_, h, rfl⟩) hn.1
      | tail _ h' => exact fst_unique hn.2 h h'

theorem tagsFit_ok {M : List Nat} {np npG : Nat} {MG : List Nat} {τ : List (List Nat)} {σ : List (Nat × Nat)} (h : tagsFit M np npG MG τ σ = true) : Fit M np npG MG τ σ := by
  unfold tagsFit at h
  simp only [Bool.and_eq_true] at h
  obtain ⟨⟨⟨⟨⟨⟨h0, h1⟩, h2⟩, h3⟩, h4⟩, h5⟩, h6⟩ := h
  have h4 := of_decide_eq_true h4
  have h5 := of_decide_eq_true h5
  have hz : ∀ t u, (t, u) ∈ σ → t ≠ 0 ∧ u ≠ 0 ∧ ∀ ts, τ[u]? = some ts → ∀ t', t' ∈ ts → t' = t := by
    intro t u hm
    have := List.all_eq_true.1 h6 _ hm
    simp only at this
    split at this
    · rename_i q1 q2
      refine ⟨fun e => by subst e; simp at q1, fun e => by subst e; simp at q2, fun ts hts t' ht' => ?_⟩
      rw [hts] at this
      simp only at this
      exact Nat.eq_of_beq_eq_true (List.all_eq_true.1 this t' ht')
    · cases this
  refine ⟨?_, nodup_flatten_apart (of_decide_eq_true h1), Nat.le_of_ble_eq_true h2, ?_, ?_, ?_, ?_⟩
  · split at h0
    · rename_i ts hts; exact ⟨ts, hts, memB_ok h0⟩
    · cases h0
  · intro u hu ts hts t ht
    have := List.all_eq_true.1 h3 u hu
    rw [hts] at this
    simp only at this
    have := List.all_eq_true.1 this t ht
    simp only [Bool.and_eq_true] at this
    refine ⟨this.1, ?_⟩
    have h := this.2
    split at h
    · rename_i v hv; rw [hv, Nat.eq_of_beq_eq_true h]
    · cases h
  · intro t t' u a b
    exact fst_unique h5 (lookN_mem a) (lookN_mem b)
  · intro t u a
    exact hz t u (lookN_mem a)
  · intro u hu
    exact lookN_of_mem h4 (ren_mem hu)

/-- The caller's memory behind a call. -/
theorem after_ext {w w' : World} {S S' : Fam} {npG : Nat} {MG : List Nat} {τ : List (List Nat)} {σ : List (Nat × Nat)} (hwf : ∀ t, C.np < t → ∀ b, ¬ C.S0 t b) (hfit : Fit C.M C.np npG MG τ σ)
    (h : Ext C.w0 C.S0 C.M w S) (h' : Ext w (pull S τ) MG w' S') : Ext C.w0 C.S0 C.M w' (after S S' w.heap.size σ) := by
  have hcases : ∀ t b, after S S' w.heap.size σ t b → (∃ u, lookN t σ = some u ∧ S' u b) ∨ (lookN t σ = none ∧ t = 0 ∧ (S 0 b ∨ (S' 0 b ∧ w.heap.size ≤ b))) ∨ (lookN t σ = none ∧ t ≠ 0 ∧ S t b) := by
    intro t b hb
    unfold after at hb
    split at hb
    · rename_i u hu; exact .inl ⟨u, hu, hb⟩
    · rename_i hu
      split at hb
      · rename_i ht; exact .inr (.inl ⟨hu, ht, hb⟩)
      · rename_i ht; exact .inr (.inr ⟨hu, ht, hb⟩)
  have hpull : ∀ t u b, lookN t σ = some u → S' u b → b < w.heap.size → S t b := by
    intro t u b hu hb hl
    obtain ⟨ts, hts, t', ht', hS⟩ := h'.old u b hb hl
    have := (hfit.nz t u hu).2.2 ts hts t' ht'
    subst this; exact hS
  refine ⟨Nat.le_trans h.size h'.size, ?_, ⟨?_, ?_⟩, ?_, ?_, h'.out.trans h.out, h'.os.trans h.os, h'.tape.trans h.tape⟩
  · intro b hb hm
    rw [← h.same b hb hm]
    refine h'.same b (Nat.lt_of_lt_of_le hb h.size) ?_
    rintro u hu ⟨ts, hts, t, ht, hS⟩
    obtain ⟨hmine, _⟩ := hfit.back u hu ts hts t ht
    obtain ⟨hmine, _⟩ := mineB_ok hwf hmine
    exact hm t (hmine.lt h hS hb) (h.old t b hS hb)
  · intro t b hb
    rcases hcases t b hb with ⟨u, _, hS⟩ | ⟨_, _, hS | ⟨hS, _⟩⟩ | ⟨_, _, hS⟩
    · exact h'.good.bd u b hS
    · exact Nat.lt_of_lt_of_le (h.good.bd 0 b hS) h'.size
    · exact h'.good.bd 0 b hS
    · exact Nat.lt_of_lt_of_le (h.good.bd t b hS) h'.size
  · intro t v b hb hb'
    have key : ∀ t v b, (∃ u, lookN t σ = some u ∧ S' u b) → ((lookN v σ = none ∧ v = 0 ∧ (S 0 b ∨ (S' 0 b ∧ w.heap.size ≤ b))) ∨ (lookN v σ = none ∧ v ≠ 0 ∧ S v b)) → t = v := by
      rintro t v b ⟨u, hu, hS⟩ (⟨hv, rfl, hb | ⟨hb, hge⟩⟩ | ⟨hv, hv0, hb⟩)
      · exact h.good.dj _ _ b (hpull t u b hu hS (h.good.bd _ _ hb)) hb
      · have := h'.good.dj _ _ b hS hb
        exact absurd this (hfit.nz t u hu).2.1
      · exact h.good.dj _ _ b (hpull t u b hu hS (h.good.bd _ _ hb)) hb
    rcases hcases t b hb with h1 | h1 | h1
    · rcases hcases v b hb' with h2 | h2 | h2
      · obtain ⟨u, hu, hS⟩ := h1
        obtain ⟨u', hu', hS'⟩ := h2
        have := h'.good.dj _ _ b hS hS'
        subst this
        exact hfit.one _ _ _ hu hu'
      · exact key t v b h1 (.inl h2)
      · exact key t v b h1 (.inr h2)
    · rcases hcases v b hb' with h2 | h2 | h2
      · exact (key v t b h2 (.inl h1)).symm
      · rw [h1.2.1, h2.2.1]
      · rcases h1.2.2 with h0 | ⟨_, hge⟩
        · exact h1.2.1 ▸ h.good.dj _ _ b h0 h2.2.2
        · exact absurd (h.good.bd _ _ h2.2.2) (by omega)
    · rcases hcases v b hb' with h2 | h2 | h2
      · exact (key v t b h2 (.inr h1)).symm
      · rcases h2.2.2 with h0 | ⟨_, hge⟩
        · exact h2.2.1 ▸ h.good.dj _ _ b h1.2.2 h0
        · exact absurd (h.good.bd _ _ h1.2.2) (by omega)
      · exact h.good.dj _ _ b h1.2.2 h2.2.2
  · intro t b hb hl
    rcases hcases t b hb with ⟨u, hu, hS⟩ | ⟨_, rfl, hS | ⟨hS, hge⟩⟩ | ⟨_, _, hS⟩
    · exact h.old t b (hpull t u b hu hS (Nat.lt_of_lt_of_le hl h.size)) hl
    · exact h.old 0 b hS hl
    · have := h.size; omega
    · exact h.old t b hS hl
  · intro b hb
    have hn : lookN 0 σ = none := by
      cases hc : lookN 0 σ with
      | none => rfl
      | some u => exact absurd rfl (hfit.nz 0 u hc).1
    unfold after
    rw [hn]
    exact .inl (h.grow0 b hb)

def callArgs (env : Env) : List Operand → Option (List Value)
  | [] => some []
  | x :: r => match evalE env x, callArgs env r with
    | some v, some l => some (v :: l)
    | _, _ => none
theorem callArgs_ok {l : List Value} (he : EnvOk env l) : ∀ {xs : List Operand} {vs : List Value}, callArgs env xs = some vs → xs.map (Act.eval ⟨⟨l⟩, []⟩) = vs
  | [], vs, h => by simp only [callArgs] at h; cases h; rfl
  | x :: r, vs, h => by
    simp only [callArgs] at h
    split at h
    · rename_i v l' hv hl; cases h
      rw [List.map_cons, evalE_ok he hv, callArgs_ok he hl]
    · cases h

/-- A function of the program's own. -/
def ownFunc (P : Program) (g : FuncId) : Bool :=
  match P.funcs[g]? with
  | some fn => fn.body.isSome && !(fn.name == "runtime.NumGoroutine")
  | none => false

theorem ownFunc_ok {P : Program} {g : FuncId} (h : ownFunc P g = true) (args : Array Value) (w : World) : (callFunc g args).run P w = .ok (.enter g args) w := by
  unfold ownFunc at h
  split at h
  · rename_i fn hf
    simp only [Bool.and_eq_true, Bool.not_eq_true'] at h
    have h1 : fn.body.isNone = false := by cases hb : fn.body <;> simp_all
    have h2 : ¬ fn.name = "runtime.NumGoroutine" := by have := h.2; simpa using this
    have h3 : fn.body ≠ none := fun e => by rw [e] at h1; cases h1
    simp [callFunc, hf, h2, h3]
  · cases h

/-- f(..) -/
theorem GoO.call {ρ' : Type} {g : FuncId} {xs : List Operand} {ats : Array TypeId} {d : Option Tmp} {ty : TypeId} (hop : opAt ops i env = some (.call { callee := .value (.func g), args := ⟨xs⟩, argTypes := ats }, d, ty))
    {args : List Value} (hargs : callArgs env xs = some args) (hown : ownFunc C.P g = true) {npG : Nat} {MG : List Nat} {HG : List Bx} {BG : List Fct} {o' : Option ρ'} {R : Pst ρ'}
    (hc : Meets C.P g args npG MG HG BG o' R) (τ : List (List Nat)) (σ : List (Nat × Nat)) (jh jb : List (Nat × Nat)) {hks bks : List Nat} (hfit : tagsFit C.M C.np npG MG τ σ = true)
    (hH : mapH τ H jh = some HG) (hB : mapB τ B jb = some BG) (hro : τ[0]? = some [0] ∨ ∀ r x, R.B r x = [])
    (hkH : picks H hks = some H') (hkB : picks B bks = some B') (n1 : (H'.all fun x => noTag x.t (σ.map (·.1))) = true) (n2 : (B'.all fun x => noTag x.t (σ.map (·.1))) = true)
    (env' : ρ' → R.ε → Env) (hput : ∀ r x, putE C.n env d (R.v r x) = some (env' r x)) {K : ρ' → Option ρ}
    (H'' : ρ' → R.ε → List Bx) (B'' : ρ' → R.ε → List Fct) (eH : ∀ r x, H'' r x = (R.H r x).map (Bx.ren σ) ++ H') (eB : ∀ r x, B'' r x = (R.B r x).map (Fct.ren σ) ++ B')
    (zH : ∀ r x, ((R.H r x).all fun y => Nat.blt 0 (ren σ y.t)) = true) (zB : ∀ r x, ((R.B r x).all fun y => Nat.beq y.t 0 || Nat.blt 0 (ren σ y.t)) = true)
    (kk : ∀ r x, G (env' r x) (H'' r x) (B'' r x) (K r)) : OpTo C ops i env H B (o'.bind K) G := by
  intro r hr l w S hsat X hX
  have hfit := tagsFit_ok hfit
  cases ho : o' with
  | none => rw [ho] at hr; cases hr
  | some r' =>
    rw [ho] at hr
    simp only [Option.bind_some] at hr
    obtain ⟨q, hq, hw, e1, e2, e3⟩ := opAt_ok hop
    have hgoodG : Good w (pull S τ) := by
      refine ⟨?_, ?_⟩
      · rintro u b ⟨ts, _, t, _, hS⟩; exact hsat.ext.good.bd t b hS
      · rintro u v b ⟨ts, hts, t, ht, hS⟩ ⟨us, hus, t', ht', hS'⟩
        have := hsat.ext.good.dj _ _ b hS hS'
        subst this
        exact hfit.apart u v ts us t hts hus ht ht'
    have hnpG : ∀ t, npG < t → ∀ b, ¬ pull S τ t b := by
      rintro t ht b ⟨ts, hts, _⟩
      have := (List.getElem?_eq_some_iff.1 hts).1
      have := hfit.short
      omega
    have hcall := hc r' ho w (pull S τ) hgoodG hnpG (mapH_ok hsat.hs hH) (mapB_ok hsat.bs hfit.zero hB)
    have hmap := callArgs_ok hsat.env hargs
    have hrun : (execOp (Act.eval ⟨⟨l⟩, []⟩) q).run C.P w = .ok (.enter g ⟨args⟩) w := by
      have := ownFunc_ok hown (⟨args⟩ : Array Value) w
      simp [execOp, e1, resolve, Act.eval, Deferred.ofValue, invoke, hmap, this]
    refine ⟨q, hq, wantedE_ok hsat.env hw, .inr ⟨g, _, hrun, hcall.mono ?_⟩⟩
    rintro e w' ⟨x, S', he, hext, hHR, hBR⟩
    refine ⟨_, he, ?_⟩
    obtain ⟨h1, h2⟩ := putE_ok (hput r' x) hsat.len hsat.env
    subst e2
    have hext' := after_ext hsat.wf hfit hsat.ext hext
    have hkeepS : ∀ t b, lookN t σ = none → S t b → after S S' w.heap.size σ t b := by
      intro t b ht hS
      unfold after
      rw [ht]
      by_cases h0 : t = 0
      · subst h0; exact .inl hS
      · simp only [if_neg h0]; exact hS
    have hkeepW : ∀ t b, lookN t σ = none → S t b → w'.heap[b]? = w.heap[b]? := by
      intro t b ht hS
      refine hext.same b (hsat.ext.good.bd t b hS) ?_
      rintro u hu ⟨ts, hts, t', ht', hS'⟩
      have := hsat.ext.good.dj _ _ b hS hS'
      subst this
      have := (hfit.back u hu ts hts t ht').2
      rw [ht] at this; cases this
    have hnone : ∀ t, noTag t (σ.map (·.1)) = true → lookN t σ = none := by
      intro t ht
      cases hl : lookN t σ with
      | none => rfl
      | some u => exact absurd rfl (noTag_ok ht t (List.mem_map.2 ⟨_, lookN_mem hl, rfl⟩))
    have h0none : lookN 0 σ = none := by
      cases hl : lookN 0 σ with
      | none => rfl
      | some u => exact absurd rfl (hfit.nz 0 u hl).1
    have hput' : ∀ u b, ren σ u ≠ 0 → S' u b → after S S' w.heap.size σ (ren σ u) b := by
      intro u b hu hS
      unfold after
      rw [hfit.ren u hu]; exact hS
    refine hX _ _ _ _ _ w' _ (kk r' x) hr ⟨hsat.wf, hext', h2, h1, ?_, ?_⟩
    · rw [eH]
      intro y hy
      rcases List.mem_append.1 hy with hy | hy
      · obtain ⟨z, hz, rfl⟩ := List.mem_map.1 hy
        obtain ⟨q1, T, q2⟩ := hHR z hz
        have hz0 := List.all_eq_true.1 (zH r' x) z hz
        have hz0 : ren σ z.t ≠ 0 := by have := Nat.le_of_ble_eq_true hz0; omega
        exact ⟨hput' _ _ hz0 q1, T, q2⟩
      · obtain ⟨q1, T, q2⟩ := hsat.hs y (picks_mem hkH y hy)
        have hn := hnone y.t (List.all_eq_true.1 n1 y hy)
        exact ⟨hkeepS _ _ hn q1, T, by rw [hkeepW _ _ hn q1]; exact q2⟩
    · rw [eB]
      intro y hy
      rcases List.mem_append.1 hy with hy | hy
      · obtain ⟨z, hz, rfl⟩ := List.mem_map.1 hy
        have hzok := hBR z hz
        have hR0 : ∀ b, S' 0 b → after S S' w.heap.size σ 0 b := by
          intro b hb
          unfold after
          rw [h0none]
          simp only [if_true]
          by_cases hl : b < w.heap.size
          · left
            rcases hro with h | h
            · obtain ⟨ts, hts, t, ht, hS⟩ := hext.old 0 b hb hl
              rw [h] at hts; cases hts
              simp at ht; subst ht; exact hS
            · rw [h r' x] at hz; cases hz
          · exact .inr ⟨hb, by omega⟩
        have hz0 := List.all_eq_true.1 (zB r' x) z hz
        have hT : ∀ b, S' z.t b → after S S' w.heap.size σ (ren σ z.t) b := by
          intro b hb
          by_cases hr0 : ren σ z.t = 0
          · rw [hr0]
            simp only [hr0, Bool.or_eq_true] at hz0
            rcases hz0 with h | h
            · have := Nat.eq_of_beq_eq_true h
              rw [this] at hb; exact hR0 b hb
            · simp [Nat.blt] at h
          · exact hput' _ _ hr0 hb
        exact z.q.st (fun b hb _ => ⟨rfl, hT b hb⟩) (fun b hb _ => ⟨rfl, hR0 b hb⟩) hzok
      · have hyok := hsat.bs y (picks_mem hkB y hy)
        have hn := hnone y.t (List.all_eq_true.1 n2 y hy)
        exact y.q.st (fun b hb _ => ⟨hkeepW _ _ hn hb, hkeepS _ _ hn hb⟩) (fun b hb _ => ⟨hkeepW _ _ h0none hb, hkeepS _ _ h0none hb⟩) hyok
end
end Go.GL
