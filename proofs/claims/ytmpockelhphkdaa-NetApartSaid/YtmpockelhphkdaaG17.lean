import Derived.Test.YtmpockelhphkdaaG16
import Derived.Maps.RangeRun
/-! Walks by symbolic states: 'range' over a map: in whatever order; the pure program answers only if all orders come to one answer. -/
set_option linter.unusedSimpArgs false
set_option linter.unusedVariables false
namespace Go.GL
open Go
open Go.ChangeMaps (setBlock)

/-- Whichever of a list is taken first, with what is left then: one answer. -/
noncomputable def allIx {α ρ : Type} (rem : List α) (g : α → List α → Option ρ) : Option ρ :=
  open Classical in if h : ∃ r, rem ≠ [] ∧ ∀ i (hi : i < rem.length), g rem[i] (rem.eraseIdx i) = some r then some h.choose else none
theorem allIx_some {α ρ : Type} {rem : List α} {g : α → List α → Option ρ} {r : ρ} (h : allIx rem g = some r) : ∀ i (hi : i < rem.length), g rem[i] (rem.eraseIdx i) = some r := by
  unfold allIx at h
  split at h
  · rename_i hx
    cases h
    exact hx.choose_spec.2
  · cases h
theorem allIx_of {α ρ : Type} {rem : List α} {g : α → List α → Option ρ} {r : ρ} (hne : rem ≠ []) (h : ∀ i (hi : i < rem.length), g rem[i] (rem.eraseIdx i) = some r) : allIx rem g = some r := by
  have hx : ∃ r, rem ≠ [] ∧ ∀ i (hi : i < rem.length), g rem[i] (rem.eraseIdx i) = some r := ⟨r, hne, h⟩
  unfold allIx
  rw [dif_pos hx]
  have h0 : 0 < rem.length := by cases rem; exact absurd rfl hne; simp
  have h1 := hx.choose_spec.2 0 h0
  rw [h 0 h0] at h1
  exact h1.symm

/-- The next one of what is left, or the end. -/
noncomputable def nextO {α ρ : Type} (rem : List α) (o : Option ρ) (g : α → List α → Option ρ) : Option ρ := match rem with | [] => o | _ :: _ => allIx rem g
theorem nextO_of {α ρ : Type} {rem : List α} {o : Option ρ} {g : α → List α → Option ρ} {r : ρ} (h0 : rem = [] → o = some r) (h : ∀ i (hi : i < rem.length), g rem[i] (rem.eraseIdx i) = some r) : nextO rem o g = some r := by
  cases rem with
  | nil => exact h0 rfl
  | cons a l => exact allIx_of (by simp) h
theorem filter_eraseIdx : ∀ (L : List MapEntry) (i : Nat) (hi : i < L.length), (L.map (·.born)).Nodup → L.filter (fun x => !(x.born == L[i].born)) = L.eraseIdx i
  | x :: L, 0, _, h => by
    simp only [List.map_cons, List.nodup_cons] at h
    simp only [List.getElem_cons_zero, List.eraseIdx_cons_zero]
    rw [List.filter_cons]
    simp only [BEq.rfl, Bool.not_true, Bool.false_eq_true, if_false]
    rw [List.filter_eq_self]
    intro y hy
    have : y.born ≠ x.born := fun e => h.1 (e ▸ List.mem_map.2 ⟨y, hy, rfl⟩)
    simp [this]
  | x :: L, i + 1, hi, h => by
    simp only [List.map_cons, List.nodup_cons] at h
    have hi' : i < L.length := by simpa using hi
    have ih := filter_eraseIdx L i hi' h.2
    simp only [List.getElem_cons_succ, List.eraseIdx_cons_succ]
    have : x.born ≠ L[i].born := fun e => h.1 (e ▸ List.mem_map.2 ⟨L[i], List.getElem_mem _, rfl⟩)
    rw [List.filter_cons]
    simp only [this, beq_iff_eq, Bool.not_eq_true', beq_eq_false_iff_ne, ne_eq, not_false_iff, if_true]
    rw [ih]

variable {P : Program} {kt : TypeId} {κ ν : Type} [DecidableEq κ]
theorem Ents.length {K : Ky P kt κ} {ev : ν → Value} : ∀ {l : List (κ × ν)} {es : List MapEntry}, Ents K ev l es → l.length = es.length
  | [], es, h => by cases h; rfl
  | (a, b) :: l, es, h => by obtain ⟨e, r, rfl, h1, h2, h3⟩ := h; simp [Ents.length h3]
theorem Ents.get {K : Ky P kt κ} {ev : ν → Value} : ∀ {l : List (κ × ν)} {es : List MapEntry}, Ents K ev l es → ∀ i (hi : i < es.length) (hl : i < l.length), es[i].key = K.enc l[i].1 ∧ es[i].val = ev l[i].2
  | [], es, h, i, hi, hl => by simp at hl
  | (a, b) :: l, es, h, i, hi, hl => by
    obtain ⟨e, r, rfl, h1, h2, h3⟩ := h
    cases i with
    | zero => exact ⟨h1, h2⟩
    | succ i => exact Ents.get h3 i (by simpa using hi) (by simpa using hl)
theorem Ents.eraseIdx {K : Ky P kt κ} {ev : ν → Value} : ∀ {l : List (κ × ν)} {es : List MapEntry}, Ents K ev l es → ∀ i, Ents K ev (l.eraseIdx i) (es.eraseIdx i)
  | [], es, h, i => by cases h; rfl
  | (a, b) :: l, es, h, i => by
    obtain ⟨e, r, rfl, h1, h2, h3⟩ := h
    cases i with
    | zero => exact h3
    | succ i => exact ⟨e, r.eraseIdx i, rfl, h1, h2, Ents.eraseIdx h3 i⟩

/-- A map of one's own, and an iterator over it: what is left, what came last. -/
def MapIt (K : Ky P kt κ) (ev : ν → Value) (w : World) (T : Nat → Prop) (A I : Option Addr) (l rem : List (κ × ν)) (cur : Option (κ × ν)) : Prop :=
  ∃ b r, A = some ⟨b, 0, none⟩ ∧ I = some ⟨r, 0, none⟩ ∧ T b ∧ T r ∧ ∃ es ck since seen c0, w.heap[b]? = some (.map es ck) ∧ Ents K ev l es.toList ∧ Brn es ck ∧ w.heap[r]? = some (.mapIter (some b) since seen c0) ∧
    (∀ x ∈ es.toList, x.born < since) ∧ since ≤ c0 ∧ since ≤ ck ∧ Ents K ev rem (leftOf es seen).toList ∧
    (∀ p, cur = some p → c0 = ck ∧ ∃ (e : MapEntry) (s0 : Array Nat), seen = s0.push e.born ∧ e ∈ es.toList ∧ e.key = K.enc p.1 ∧ e.val = ev p.2)
def Q.mit (K : Ky P kt κ) (ev : ν → Value) (A I : Option Addr) (l rem : List (κ × ν)) (cur : Option (κ × ν)) : Q where
  p := fun w T R => MapIt K ev w T A I l rem cur
  st := fun hT _ ⟨b, r, h0, h1, h2, h3, es, ck, since, seen, c0, h4, h5, h6, h7, h8⟩ => by
    obtain ⟨e, t⟩ := hT _ h2 (Array.getElem?_eq_some_iff.1 h4).1
    obtain ⟨e', t'⟩ := hT _ h3 (Array.getElem?_eq_some_iff.1 h7).1
    exact ⟨b, r, h0, h1, t, t', es, ck, since, seen, c0, e ▸ h4, h5, h6, e' ▸ h7, h8⟩
abbrev MI (t : Nat) (K : Ky P kt κ) (ev : ν → Value) (A : Option Addr) (I : Option Addr) (l rem : List (κ × ν)) (cur : Option (κ × ν)) : Fct := ⟨t, Q.mit K ev A I l rem cur⟩

section
variable {ρ : Type} {C : Cx ρ} {env env' : Env} {H H' : List Bx} {B B' : List Fct} {k : List Item} {o : Option ρ} {ops : Array Oper} {rest : List Nat} {i : Nat} {G : Env → List Bx → List Fct → Option ρ → Prop}

/-- range m -/
theorem GoO.mapRg {t vt : TypeId} {x : Operand} {d : Option Tmp} {ty : TypeId} (hop : opAt ops i env = some (.range t x, d, ty)) (hu : C.P.underlying t = some (.map kt vt))
    {K : Ky C.P kt κ} {ev : ν → Value} {A : Option Addr} {c tg : Nat} {l : List (κ × ν)} (hx : evalE env x = some (.map (mA A)))
    {j : Nat} (hf : B[j]? = some (Mp tg K ev A c l)) (hH : noTag tg (H.map (·.t)) = true) (hB : noTag tg ((B.eraseIdx j).map (·.t)) = true)
    (env' : Option Addr → Env) (hput : ∀ I, putE C.n env d (.pointer I) = some (env' I)) (g : ∀ I, G (env' I) H (B.set j (MI tg K ev A I l l none)) o) : OpTo C ops i env H B o G := by
  refine GoO.op hop fun lc w S hsat r hr => ?_
  obtain ⟨b, hA, hT, es, ck, hb, hes, hbrn⟩ := hsat.bs _ (List.mem_of_getElem? hf)
  subst hA
  have hT : S tg b := hT
  have hx : evalE env x = some (.map (some b)) := hx
  have hxx := evalE_ok hsat.env hx
  have ha : Alloc w { w with heap := w.heap.push (.mapIter (some b) ck #[] ck) } (.mapIter (some b) ck #[] ck) := ⟨rfl, rfl, rfl, rfl⟩
  refine ⟨.pointer (some ⟨w.heap.size, 0, none⟩), { w with heap := w.heap.push (.mapIter (some b) ck #[] ck) }, .inl fun q hq _ => ?_, env' (some ⟨w.heap.size, 0, none⟩), H, _, addS S tg w.heap.size, hput (some ⟨w.heap.size, 0, none⟩), fun l' h2 h1 => ?_, g (some ⟨w.heap.size, 0, none⟩)⟩
  · simp [execOp, hq, hxx, Instr.range, run_underlying hu, run_getO hb]
  · have := hsat.alloc ha tg h1 h2
    refine ⟨this.wf, this.ext, h2, h1, this.hs, ?_⟩
    intro y hy
    obtain ⟨m, hmz⟩ := List.mem_iff_getElem?.1 hy
    by_cases hjm : j = m
    · subst hjm
      have hlt' : j < B.length := (List.getElem?_eq_some_iff.1 hf).1
      rw [List.getElem?_set_self hlt'] at hmz
      cases hmz
      have hlt := (Array.getElem?_eq_some_iff.1 hb).1
      refine ⟨b, w.heap.size, rfl, rfl, .inl hT, .inr ⟨rfl, rfl⟩, es, ck, ck, #[], ck, ?_, hes, hbrn, ha.new, hbrn.1, Nat.le_refl _, Nat.le_refl _, ?_, fun p hp => by cases hp⟩
      · rw [Array.getElem?_push, if_neg (by omega)]; exact hb
      · have : leftOf es #[] = es := by simp [leftOf]
        rw [this]; exact hes
    · rw [List.getElem?_set_ne hjm] at hmz
      exact this.bs y (List.mem_of_getElem? hmz)

/-- The next one, in whatever order. -/
theorem GoO.mapNx {x : Operand} {d : Option Tmp} {ty : TypeId} (hop : opAt ops i env = some (.next x false, d, ty))
    {K : Ky C.P kt κ} {ev : ν → Value} {A I : Option Addr} {tg c : Nat} {l rem : List (κ × ν)} {cur : Option (κ × ν)} (hx : evalE env x = some (.pointer I))
    {j : Nat} (hf : B[j]? = some (MI tg K ev A I l rem cur)) (hm : mineB C.M C.np tg = true) (hH : noTag tg (H.map (·.t)) = true) (hB : noTag tg ((B.eraseIdx j).map (·.t)) = true)
    {env0 : Env} (hput0 : putE C.n env d (.tuple #[.bool false]) = some env0) (env' : κ × ν → Env) (hput : ∀ p, putE C.n env d (.tuple #[.bool true, K.enc p.1, ev p.2]) = some (env' p))
    {o1 : Option ρ} {gg : κ × ν → List (κ × ν) → Option ρ} (g0 : G env0 H (B.set j (Mp tg K ev A c l)) o1) (g : ∀ p rem', G (env' p) H (B.set j (MI tg K ev A I l rem' (some p))) (gg p rem')) :
    OpTo C ops i env H B (nextO rem o1 gg) G := by
  intro r hr lc w S hsat X hX
  obtain ⟨b, ir, hA, hI, hT, hTr, es, ck, since, seen, c0, hb, hes, hbrn, hir, hold, hsc, hsk, hrem, hcur⟩ := hsat.bs _ (List.mem_of_getElem? hf)
  subst hA; subst hI
  have hT : S tg b := hT
  have hTr : S tg ir := hTr
  have hxx := evalE_ok hsat.env hx
  obtain ⟨hmine, h0⟩ := mineB_ok hsat.wf hm
  obtain ⟨q, hq, hw, e1, e2, e3⟩ := opAt_ok hop
  have hlt' : j < B.length := (List.getElem?_eq_some_iff.1 hf).1
  have hnx := run_next_at (P := C.P) w ty ir b since c0 seen es ck hir hb hold hsc
  have hlen := hrem.length
  subst e2
  rcases hnx with ⟨hz, hrun⟩ | ⟨e, he, w1, hal, hrun⟩
  · have hr0 : rem = [] := by
      apply List.eq_nil_of_length_eq_zero
      rw [hlen]; simpa using hz
    subst hr0
    obtain ⟨k1, k2⟩ := putE_ok hput0 hsat.len hsat.env
    refine ⟨q, hq, wantedE_ok hsat.env hw, .inl ⟨_, w, .inl ?_, hX env0 H _ o1 _ w S g0 hr ⟨hsat.wf, hsat.ext, k2, k1, hsat.hs, ?_⟩⟩⟩
    · simp [execOp, e1, e3, hxx, hrun]
    · intro y hy
      obtain ⟨m, hmz⟩ := List.mem_iff_getElem?.1 hy
      by_cases hjm : j = m
      · subst hjm
        rw [List.getElem?_set_self hlt'] at hmz
        cases hmz
        exact ⟨b, rfl, hT, es, ck, hb, hes, hbrn⟩
      · rw [List.getElem?_set_ne hjm] at hmz
        exact hsat.bs y (List.mem_of_getElem? hmz)
  · obtain ⟨ix, hix, hee⟩ := List.mem_iff_getElem.1 he
    have hixr : ix < rem.length := by rw [hlen]; exact hix
    have hr' : allIx rem gg = some r := by
      cases rem with
      | nil => simp at hixr
      | cons p rm => exact hr
    have hr2 := allIx_some hr' ix hixr
    obtain ⟨q1, q2⟩ := hrem.get ix hix hixr
    have q1 : e.key = K.enc rem[ix].1 := by rw [← hee]; exact q1
    have q2 : e.val = ev rem[ix].2 := by rw [← hee]; exact q2
    obtain ⟨hem, hes0⟩ := mem_left he
    obtain ⟨k1, k2⟩ := putE_ok (hput rem[ix]) hsat.len hsat.env
    let it' : Obj := .mapIter (some b) since (seen.push e.born) ck
    let w' := setBlock w1 ir it'
    have hw1 : w1.heap = w.heap ∧ w1.output = w.output ∧ w1.os = w.os ∧ w1.tape = w.tape := by rcases hal with rfl | rfl <;> exact ⟨rfl, rfl, rfl, rfl⟩
    have hne : ir ≠ b := fun e => by rw [e, hb] at hir; cases hir
    have hirlt := (Array.getElem?_eq_some_iff.1 hir).1
    have hhir : w'.heap[ir]? = some it' := by simp [w', setBlock, hw1.1, hirlt]
    have hoth : ∀ kk, kk ≠ ir → w'.heap[kk]? = w.heap[kk]? := fun kk hk => by
      simp [w', setBlock, hw1.1, Array.getElem?_setIfInBounds, Ne.symm hk]
    have honly : Only w w' ir := ⟨by simp [w', setBlock, hw1.1], fun kk _ hk => hoth kk hk, hw1.2.1, hw1.2.2.1, hw1.2.2.2⟩
    refine ⟨q, hq, wantedE_ok hsat.env hw, .inl ⟨_, w', .inl ?_, hX (env' rem[ix]) H _ _ _ w' S (g rem[ix] (rem.eraseIdx ix)) hr2 ⟨hsat.wf, honly.ext hsat.ext hTr (hmine.lt hsat.ext hTr), k2, k1, ?_, ?_⟩⟩⟩
    · rw [← q1, ← q2]
      simp [execOp, e1, e3, hxx, hrun, w', it']
    · intro z hzz
      exact honly.bx hsat.ext.good hTr (noTag_ok hH z.t (List.mem_map.2 ⟨z, hzz, rfl⟩)) (hsat.hs z hzz)
    · intro z hzz
      obtain ⟨m, hmz⟩ := List.mem_iff_getElem?.1 hzz
      by_cases hjm : j = m
      · subst hjm
        rw [List.getElem?_set_self hlt'] at hmz
        cases hmz
        refine ⟨b, ir, rfl, rfl, hT, hTr, es, ck, since, seen.push e.born, ck, (hoth b (Ne.symm hne)).trans hb, hes, hbrn, hhir, hold, hsk, hsk, ?_, fun p hp => ?_⟩
        · have hl := hrem.eraseIdx ix
          have e4 : (leftOf es (seen.push e.born)).toList = (leftOf es seen).toList.eraseIdx ix := by
            have hnd : ((leftOf es seen).toList.map (·.born)).Nodup := by
              unfold leftOf
              rw [Array.toList_filter]
              exact hbrn.2.sublist ((List.filter_sublist).map _)
            have := filter_eraseIdx _ ix hix hnd
            rw [← this, hee]
            unfold leftOf
            rw [Array.toList_filter, Array.toList_filter, List.filter_filter]
            congr 1
            funext x
            have : (seen.push e.born).contains x.born = (seen.contains x.born || (x.born == e.born)) := by
              rw [Array.contains_push]
            rw [this]
            cases seen.contains x.born <;> cases (x.born == e.born) <;> rfl
          rw [e4]; exact hl
        · cases hp
          exact ⟨rfl, e, seen, rfl, hem, q1, q2⟩
      · rw [List.getElem?_set_ne hjm] at hmz
        have : z ∈ B.eraseIdx j := (List.mem_eraseIdx_iff_getElem?).2 ⟨m, fun e => hjm e.symm, hmz⟩
        exact honly.fct hsat.ext.good hTr (noTag_ok hB z.t (List.mem_map.2 ⟨z, this, rfl⟩)) h0 (hsat.bs z (List.mem_of_getElem? hmz))

/-- What came last is forgotten. -/
theorem GoO.mapFg {todo : List Item} {K : Ky C.P kt κ} {ev : ν → Value} {A I : Option Addr} {tg : Nat} {l rem : List (κ × ν)} {p : κ × ν} {j : Nat} (hf : B[j]? = some (MI tg K ev A I l rem (some p)))
    (g : GoO C env H (B.set j (MI tg K ev A I l rem none)) todo o) : GoO C env H B todo o := by
  intro r hr lc w S hsat
  refine g r hr lc w S ⟨hsat.wf, hsat.ext, hsat.len, hsat.env, hsat.hs, fun y hy => ?_⟩
  obtain ⟨m, hmz⟩ := List.mem_iff_getElem?.1 hy
  by_cases hjm : j = m
  · subst hjm
    have hlt' : j < B.length := (List.getElem?_eq_some_iff.1 hf).1
    rw [List.getElem?_set_self hlt'] at hmz
    cases hmz
    obtain ⟨b, ir, hA, hI, hT, hTr, es, ck, since, seen, c0, hb, hes, hbrn, hir, hold, hsc, hsk, hrem, hcur⟩ := hsat.bs _ (List.mem_of_getElem? hf)
    exact ⟨b, ir, hA, hI, hT, hTr, es, ck, since, seen, c0, hb, hes, hbrn, hir, hold, hsc, hsk, hrem, fun p hp => by cases hp⟩
  · rw [List.getElem?_set_ne hjm] at hmz
    exact hsat.bs y (List.mem_of_getElem? hmz)
/-- The entry that came last. -/
theorem GoO.mapEn {x : Operand} {d : Option Tmp} {ty : TypeId} (hop : opAt ops i env = some (.entry x, d, ty))
    {K : Ky C.P kt κ} {ev : ν → Value} {A I : Option Addr} {tg : Nat} {l rem : List (κ × ν)} {p : κ × ν} (hx : evalE env x = some (.pointer I))
    {j : Nat} (hf : B[j]? = some (MI tg K ev A I l rem (some p))) (hput : putE C.n env d (.tuple #[K.enc p.1, ev p.2]) = some env') (g : G env' H B o) : OpTo C ops i env H B o G := by
  refine GoO.op hop fun lc w S hsat r hr => ⟨_, w, .inl fun q hq _ => ?_, env', H, B, S, hput, fun l' h2 h1 => ⟨hsat.wf, hsat.ext, h2, h1, hsat.hs, hsat.bs⟩, g⟩
  obtain ⟨b, ir, hA, hI, hT, hTr, es, ck, since, seen, c0, hb, hes, hbrn, hir, hold, hsc, hsk, hrem, hcur⟩ := hsat.bs _ (List.mem_of_getElem? hf)
  subst hA; subst hI
  obtain ⟨hc, e, s0, hs0, hem, q1, q2⟩ := hcur p rfl
  subst hs0; subst hc
  have hxx := evalE_ok hsat.env hx
  have := run_entry_at (P := C.P) w ir b since s0 es c0 e hir hb hem hbrn.2
  simp [execOp, hq, hxx, this, q1, q2]
end
end Go.GL
