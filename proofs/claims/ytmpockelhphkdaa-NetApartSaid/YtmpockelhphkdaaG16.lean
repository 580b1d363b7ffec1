import Derived.Test.YtmpockelhphkdaaG15
/-! Walks by symbolic states: calls of function values that captured something. -/
set_option linter.unusedSimpArgs false
set_option linter.unusedVariables false
namespace Go.GL
open Go
section
variable {ρ : Type} {C : Cx ρ} {env env' : Env} {H H' : List Bx} {B B' : List Fct} {k : List Item} {o : Option ρ} {ops : Array Oper} {rest : List Nat} {i : Nat} {G : Env → List Bx → List Fct → Option ρ → Prop}
/-- f(..), where f is a value: a function literal with what it captured. -/
theorem GoO.callF {ρ' : Type} {g : FuncId} {fo : Operand} {cap : List Value} {xs : List Operand} {ats : Array TypeId} {d : Option Tmp} {ty : TypeId} (hop : opAt ops i env = some (.call { callee := .value fo, args := ⟨xs⟩, argTypes := ats }, d, ty))
    {args : List Value} (hfo : evalE env fo = some (.func (.func g) #[] ⟨cap⟩)) (hargs : callArgs env xs = some args) (hown : ownFunc C.P g = true) {npG : Nat} {MG : List Nat} {HG : List Bx} {BG : List Fct} {o' : Option ρ'} {R : Pst ρ'}
    (hc : Meets C.P g (args ++ cap) npG MG HG BG o' R) (τ : List (List Nat)) (σ : List (Nat × Nat)) (jh jb : List (Nat × Nat)) {hks bks : List Nat} (hfit : tagsFit C.M C.np npG MG τ σ = true)
    (hH : mapH τ H jh = some HG) (hB : mapB τ B jb = some BG) (hro : τ[0]? = some [0] ∨ ∀ r x, R.B r x = [])
    (hkH : picks H hks = some H') (hkB : picks B bks = some B') (n1 : (H'.all fun x => noTag x.t (σ.map (·.1))) = true) (n2 : (B'.all fun x => noTag x.t (σ.map (·.1))) = true)
    (env' : ρ' → R.ε → Env) (hput : ∀ r x, putE C.n env d (R.v r x) = some (env' r x)) {K : ρ' → Option ρ}
    (H'' : ρ' → R.ε → List Bx) (B'' : ρ' → R.ε → List Fct) (eH : ∀ r x, H'' r x = (R.H r x).map (Bx.ren σ) ++ H') (eB : ∀ r x, B'' r x = (R.B r x).map (Fct.ren σ) ++ B')
    (zH : ∀ r x, ((R.H r x).all fun y => Nat.blt 0 (ren σ y.t)) = true) (zB : ∀ r x, ((R.B r x).all fun y => Nat.beq y.t 0 || Nat.blt 0 (ren σ y.t)) = true)
    (kk : ∀ r x, G (env' r x) (H'' r x) (B'' r x) (K r)) : OpTo C ops i env H B (o'.bind K) G := by
  intro r hr l w S hsat X hX
  have hfit := tagsFit_ok hfit
  cases ho : o' with
  | none => rw [ho] at hr; cases hr
  | some r' =>
    rw [ho] at hr
    simp only [Option.bind_some] at hr
    obtain ⟨q, hq, hw, e1, e2, e3⟩ := opAt_ok hop
    have hgoodG : Good w (pull S τ) := by
      refine ⟨?_, ?_⟩
      · rintro u b ⟨ts, _, t, _, hS⟩; exact hsat.ext.good.bd t b hS
      · rintro u v b ⟨ts, hts, t, ht, hS⟩ ⟨us, hus, t', ht', hS'⟩
        have := hsat.ext.good.dj _ _ b hS hS'
        subst this
        exact hfit.apart u v ts us t hts hus ht ht'
    have hnpG : ∀ t, npG < t → ∀ b, ¬ pull S τ t b := by
      rintro t ht b ⟨ts, hts, _⟩
      have := (List.getElem?_eq_some_iff.1 hts).1
      have := hfit.short
      omega
    have hcall := hc r' ho w (pull S τ) hgoodG hnpG (mapH_ok hsat.hs hH) (mapB_ok hsat.bs hfit.zero hB)
    have hmap := callArgs_ok hsat.env hargs
    have hrun : (execOp (Act.eval ⟨⟨l⟩, []⟩) q).run C.P w = .ok (.enter g ⟨args ++ cap⟩) w := by
      have := ownFunc_ok hown (⟨args ++ cap⟩ : Array Value) w
      have hfv := evalE_ok hsat.env hfo
      simp [execOp, e1, resolve, hfv, Deferred.ofValue, invoke, hmap, this]
    refine ⟨q, hq, wantedE_ok hsat.env hw, .inr ⟨g, _, hrun, hcall.mono ?_⟩⟩
    rintro e w' ⟨x, S', he, hext, hHR, hBR⟩
    refine ⟨_, he, ?_⟩
    obtain ⟨h1, h2⟩ := putE_ok (hput r' x) hsat.len hsat.env
    subst e2
    have hext' := after_ext hsat.wf hfit hsat.ext hext
    have hkeepS : ∀ t b, lookN t σ = none → S t b → after S S' w.heap.size σ t b := by
      intro t b ht hS
      unfold after
      rw [ht]
      by_cases h0 : t = 0
      · subst h0; exact .inl hS
      · simp only [if_neg h0]; exact hS
    have hkeepW : ∀ t b, lookN t σ = none → S t b → w'.heap[b]? = w.heap[b]? := by
      intro t b ht hS
      refine hext.same b (hsat.ext.good.bd t b hS) ?_
      rintro u hu ⟨ts, hts, t', ht', hS'⟩
      have := hsat.ext.good.dj _ _ b hS hS'
      subst this
      have := (hfit.back u hu ts hts t ht').2
      rw [ht] at this; cases this
    have hnone : ∀ t, noTag t (σ.map (·.1)) = true → lookN t σ = none := by
      intro t ht
      cases hl : lookN t σ with
      | none => rfl
      | some u => exact absurd rfl (noTag_ok ht t (List.mem_map.2 ⟨_, lookN_mem hl, rfl⟩))
    have h0none : lookN 0 σ = none := by
      cases hl : lookN 0 σ with
      | none => rfl
      | some u => exact absurd rfl (hfit.nz 0 u hl).1
    have hput' : ∀ u b, ren σ u ≠ 0 → S' u b → after S S' w.heap.size σ (ren σ u) b := by
      intro u b hu hS
      unfold after
      rw [hfit.ren u hu]; exact hS
    refine hX _ _ _ _ _ w' _ (kk r' x) hr ⟨hsat.wf, hext', h2, h1, ?_, ?_⟩
    · rw [eH]
      intro y hy
      rcases List.mem_append.1 hy with hy | hy
      · obtain ⟨z, hz, rfl⟩ := List.mem_map.1 hy
        obtain ⟨q1, T, q2⟩ := hHR z hz
        have hz0 := List.all_eq_true.1 (zH r' x) z hz
        have hz0 : ren σ z.t ≠ 0 := by have := Nat.le_of_ble_eq_true hz0; omega
        exact ⟨hput' _ _ hz0 q1, T, q2⟩
      · obtain ⟨q1, T, q2⟩ := hsat.hs y (picks_mem hkH y hy)
        have hn := hnone y.t (List.all_eq_true.1 n1 y hy)
        exact ⟨hkeepS _ _ hn q1, T, by rw [hkeepW _ _ hn q1]; exact q2⟩
    · rw [eB]
      intro y hy
      rcases List.mem_append.1 hy with hy | hy
      · obtain ⟨z, hz, rfl⟩ := List.mem_map.1 hy
        have hzok := hBR z hz
        have hR0 : ∀ b, S' 0 b → after S S' w.heap.size σ 0 b := by
          intro b hb
          unfold after
          rw [h0none]
          simp only [if_true]
          by_cases hl : b < w.heap.size
          · left
            rcases hro with h | h
            · obtain ⟨ts, hts, t, ht, hS⟩ := hext.old 0 b hb hl
              rw [h] at hts; cases hts
              simp at ht; subst ht; exact hS
            · rw [h r' x] at hz; cases hz
          · exact .inr ⟨hb, by omega⟩
        have hz0 := List.all_eq_true.1 (zB r' x) z hz
        have hT : ∀ b, S' z.t b → after S S' w.heap.size σ (ren σ z.t) b := by
          intro b hb
          by_cases hr0 : ren σ z.t = 0
          · rw [hr0]
            simp only [hr0, Bool.or_eq_true] at hz0
            rcases hz0 with h | h
            · have := Nat.eq_of_beq_eq_true h
              rw [this] at hb; exact hR0 b hb
            · simp [Nat.blt] at h
          · exact hput' _ _ hr0 hb
        exact z.q.st (fun b hb _ => ⟨rfl, hT b hb⟩) (fun b hb _ => ⟨rfl, hR0 b hb⟩) hzok
      · have hyok := hsat.bs y (picks_mem hkB y hy)
        have hn := hnone y.t (List.all_eq_true.1 n2 y hy)
        exact y.q.st (fun b hb _ => ⟨hkeepW _ _ hn hb, hkeepS _ _ hn hb⟩) (fun b hb _ => ⟨hkeepW _ _ h0none hb, hkeepS _ _ h0none hb⟩) hyok
/-- A function literal that captures something is made. -/
theorem GoO.mkFn {g : FuncId} {xs : List Operand} {d : Option Tmp} {ty : TypeId} (hop : opAt ops i env = some (.makeFunc (.func g) #[] ⟨xs⟩, d, ty)) {vs : List Value} (hx : callArgs env xs = some vs)
    (hput : putE C.n env d (.func (.func g) #[] ⟨vs⟩) = some env') (g' : G env' H B o) : OpTo C ops i env H B o G := by
  refine GoO.op hop fun lf w S hsat r hr => ?_
  have hm := callArgs_ok hsat.env hx
  refine ⟨_, w, .inl fun q hq _ => ?_, env', H, B, S, hput, fun l' h2 h1' => ⟨hsat.wf, hsat.ext, h2, h1', hsat.hs, hsat.bs⟩, g'⟩
  simp [execOp, hq, Instr.makeFunc, hm]
end
end Go.GL
