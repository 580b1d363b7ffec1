/- The law SagaSteps, over the plain functions. -/
import Derived.Test.YtfeddlhkiomdaaaLawSagaTwice
set_option linter.unusedVariables false
set_option linter.unusedSimpArgs false
set_option maxRecDepth 10000
namespace Go.GL
open Go
theorem r_Outcome (n : Nat) (s : T_api_Saga) (step : Int) (taken : Bool) (tr : Int) (ok : Bool) (hn : s.Steps.length + 80 < n) : tontineref14_Outcome.f n s step taken tr ok = some (outS s step taken tr ok) := by
  unfold tontineref14_Outcome.f
  rw [r_Sound n s hn, Option.bind_some]
  have hno : ¬ takes s step taken tr ok → tontineref14_Outcome.j0 n s step taken ok true = some (outS s step taken tr ok) := by
    intro h
    unfold outS
    rw [if_neg h]
    rfl
  by_cases hs : soundP s
  · rw [decide_eq_true hs, if_neg (by simp)]
    by_cases h2 : s.State > 2
    · rw [if_pos (by simpa using h2)]
      exact hno fun h => by have := h.2.1; omega
    rw [if_neg (by simpa using h2)]
    by_cases h1 : step = s.Cursor
    · subst h1
      rw [if_neg (by simp)]
      by_cases h3 : taken = decide (s.State = 2)
      · have e2 : (taken == (s.State == 2)) = true := by
          rw [beq_iff_eq, h3, Bool.eq_iff_iff, beq_iff_eq, decide_eq_true_eq]
        rw [e2, if_neg (by simp)]
        have hyes : (ok = true ∨ tr = s.Failed) → tontineref14_Outcome.j0 n s s.Cursor taken ok false = some (outS s s.Cursor taken tr ok) := by
          intro h4
          unfold outS
          rw [if_pos ⟨hs, by omega, rfl, h3, h4⟩]
          have hL := len_ok hs
          have hst := hs.2.2
          have hc : within s := by
            rcases hst with h | h | h | h | h
            · exact h.2.1
            · exact h.2.1
            · have := h.1; omega
            · have := h.1; omega
            · exact h.2.1
          have hb := bud_pos hs.1 hc
          have hc1 := hc.1
          have hc2 := hc.2
          have w1 : wi64 (s.Cursor + 1) = s.Cursor + 1 := wi64_id (by omega) (by omega)
          have w2 : wi64 (s.Cursor - 1) = s.Cursor - 1 := wi64_id (by omega) (by omega)
          have hback : tontineref14_Outcome.j2 n s s.Cursor true = some (backS s (s.Cursor - 1), true) := by
            unfold tontineref14_Outcome.j2 tontineref14_From.f backS
            rw [if_pos rfl, w2]
            by_cases h : s.Cursor - 1 < 0
            · rw [if_pos (by simpa using h), if_pos h]; rfl
            · rw [if_neg (by simpa using h), if_neg h]; rfl
          unfold tontineref14_Outcome.j0
          rw [if_neg (by simp)]
          cases ok with
          | true =>
            rw [if_pos rfl]
            unfold tontineref14_Outcome.j1
            cases taken with
            | false =>
              rw [if_pos (by simp), w1, nextS_ft]
              by_cases h : s.Cursor + 1 = (s.Steps.length : Int)
              · rw [if_pos (by simpa using h), if_pos h]
              · rw [if_neg (by simpa using h), if_neg h]
            | true => rw [if_neg (by simp), if_pos rfl, hback, nextS_tt]
          | false =>
            rw [if_neg (by simp)]
            unfold tontineref14_Outcome.j1
            cases taken with
            | false => rw [if_neg (by simp), if_neg (by simp), show (!false) = true by rfl, hback, nextS_ff]
            | true =>
              have hF := hs.2.1
              have hs2 : s.Failed < bud s := by
                rcases hst with h | h | h | h | h
                · rw [h.1] at h3; cases h3
                · exact h.2.2
                · have := h.1; omega
                · have := h.1; omega
                · have := h.1; omega
              have w3 : wi64 (s.Failed + 1) = s.Failed + 1 := wi64_id (by omega) (by omega)
              rw [if_neg (by simp), if_neg (by simp), show (!true) = false by rfl]
              unfold tontineref14_Outcome.j2
              rw [if_neg (by simp), if_pos ⟨hc1, hc2⟩, w3, nextS_tf]
              show (if (s.Failed + 1 == bud s) = true then _ else _) = _
              by_cases h : s.Failed + 1 = bud s
              · rw [if_pos (by simpa using h), if_pos h]
              · rw [if_neg (by simpa using h), if_neg h]
        cases ok with
        | true => rw [if_neg (by simp)]; exact hyes (.inl rfl)
        | false =>
          rw [if_pos (by simp)]
          by_cases h4 : tr = s.Failed
          · rw [show (tr != s.Failed) = false by simp [h4]]; exact hyes (.inr h4)
          · rw [show (tr != s.Failed) = true by simp [h4]]; exact hno fun h => h.2.2.2.2.elim (fun q => by cases q) h4
      · have e2 : (taken == (s.State == 2)) = false := by
          rw [beq_eq_false_iff_ne]
          intro h
          apply h3
          rw [h, Bool.eq_iff_iff, beq_iff_eq, decide_eq_true_eq]
        rw [e2, if_pos (by simp)]
        exact hno fun h => h3 h.2.2.2.1
    · rw [if_pos (by simpa using h1)]
      exact hno fun h => h1 h.2.2.1
  · rw [decide_eq_false hs, if_pos (by simp)]
    exact hno fun h => hs h.1
theorem r_Abort (n : Nat) (s : T_api_Saga) (hn : s.Steps.length + 80 < n) : tontineref14_Abort.f n s = some (abS s) := by
  unfold tontineref14_Abort.f
  rw [r_Sound n s hn, Option.bind_some]
  unfold abS
  by_cases hs : soundP s
  · rw [decide_eq_true hs, if_neg (by simp)]
    unfold tontineref14_Abort.j0 tontineref14_From.f
    by_cases h1 : s.State = 1
    · rw [show (s.State != 1) = false by simp [h1], if_neg (by simp), if_pos (show soundP s ∧ s.State = 1 from ⟨hs, h1⟩)]
      unfold backS
      by_cases h : s.Cursor < 0
      · rw [if_pos (show decide (s.Cursor < 0) = true by simpa using h), if_pos h]; rfl
      · rw [if_neg (show ¬ decide (s.Cursor < 0) = true by simpa using h), if_neg h]; rfl
    · rw [show (s.State != 1) = true by simp [h1], if_pos rfl, if_neg (show ¬ (soundP s ∧ s.State = 1) from fun h => h1 h.2)]
  · rw [decide_eq_false hs, if_pos (by simp), if_neg (fun h => hs h.1)]
    rfl
theorem backS_steps (s : T_api_Saga) (k : Int) : (backS s k).Steps = s.Steps := by unfold backS; split <;> rfl
theorem nextS_steps (s : T_api_Saga) (taken ok : Bool) : (nextS s taken ok).Steps = s.Steps := by
  cases taken <;> cases ok
  · rw [nextS_ff, backS_steps]
  · rw [nextS_ft]; split <;> rfl
  · rw [nextS_tf]; split <;> rfl
  · rw [nextS_tt, backS_steps]
theorem outS_steps (s : T_api_Saga) (step : Int) (taken : Bool) (tr : Int) (ok : Bool) : (outS s step taken tr ok).1.Steps = s.Steps := by
  unfold outS; split
  · exact nextS_steps _ _ _
  · rfl
theorem abS_steps (s : T_api_Saga) : (abS s).1.Steps = s.Steps := by
  unfold abS; split
  · exact backS_steps _ _
  · rfl
theorem tontinelaw14_SagaSteps_law (s : T_api_Saga) (c : T_tontinelaw14_Call) (hs : wf_T_api_Saga s) (hc : wf_T_tontinelaw14_Call c) : Ev (fun n => tontinelaw14_SagaSteps.f n s c) true := by
  have hl := steps_len hs
  refine Ev.ge (s.Steps.length + 200) fun n hn => ?_
  unfold tontinelaw14_SagaSteps.f
  rw [begun14 n (by omega), Option.bind_some, if_neg (by simp), f_Outcome n s _ _ _ _ (by omega), Option.bind_some, r_Outcome n s _ _ _ _ (by omega), Option.bind_some, f_Abort n s (by omega), Option.bind_some, r_Abort n s (by omega), Option.bind_some,
    f_Wants n s (by omega), Option.bind_some, r_Sound n s (by omega), Option.bind_some]
  generalize ho : outS s c.Step c.Taken c.Try c.Ok = o
  generalize ha : abS s = a
  have hos : o.1.Steps = s.Steps := by rw [← ho]; exact outS_steps _ _ _ _ _
  have has : a.1.Steps = s.Steps := by rw [← ha]; exact abS_steps _
  -- the rest, wherever it is open or not
  have key : ∀ (w : Int × Bool × Bool) (op : Bool), w = (if soundP s ∧ s.State ≤ 2 then (s.Cursor, s.State == 2, true) else (0, false, false)) → op = decide (soundP s ∧ s.State ≤ 2) → tontinelaw14_SagaSteps.j0 n s o o a a w op = some true := by
    intro w op hw hop
    unfold tontinelaw14_SagaSteps.j0
    rw [if_pos (by simp), same_s n o.1 (by rw [hos]; omega) (by rw [hos]; omega), Option.bind_some]
    unfold tontinelaw14_SagaSteps.j1
    rw [if_pos rfl, show (a.2 == a.2) = true by simp]
    unfold tontinelaw14_SagaSteps.j2
    rw [if_pos rfl, same_s n a.1 (by rw [has]; omega) (by rw [has]; omega), Option.bind_some]
    unfold tontinelaw14_SagaSteps.j3
    rw [if_pos rfl, f_Sound n s (by omega), Option.bind_some, r_Sound n s (by omega), Option.bind_some, show (decide (soundP s) == decide (soundP s)) = true by simp]
    unfold tontinelaw14_SagaSteps.j4
    rw [if_pos rfl]
    have he : ∀ x : Bool, tontinelaw14_SagaSteps.j9 n s w op x x = some true := by
      intro x
      unfold tontinelaw14_SagaSteps.j9 tontinelaw14_SagaSteps.j5
      rw [show (x == x) = true by simp, if_pos rfl]
      by_cases hq : soundP s ∧ s.State ≤ 2
      · rw [if_pos hq] at hw
        rw [decide_eq_true hq] at hop
        subst hw; subst hop
        simp [tontinelaw14_SagaSteps.j6, tontinelaw14_SagaSteps.j7, tontinelaw14_SagaSteps.j8]
      · rw [if_neg hq] at hw
        rw [decide_eq_false hq] at hop
        subst hw; subst hop
        simp [tontinelaw14_SagaSteps.j6, tontinelaw14_SagaSteps.j7, tontinelaw14_SagaSteps.j8]
    unfold saga_Ended.f
    by_cases h3 : s.State ≥ 3
    · rw [if_pos (by simpa using h3), Option.bind_some, if_pos (by simpa using h3)]; exact he _
    · rw [if_neg (by simpa using h3), Option.bind_some, if_neg (by simpa using h3)]; exact he _
  by_cases hq : soundP s
  · rw [decide_eq_true hq, if_pos rfl]
    refine key _ _ rfl ?_
    rw [Bool.eq_iff_iff, decide_eq_true_eq, decide_eq_true_eq]
    exact ⟨fun h => ⟨hq, by omega⟩, fun h => by have := h.2; omega⟩
  · rw [decide_eq_false hq, if_neg (by simp)]
    refine key _ _ rfl ?_
    rw [eq_comm, decide_eq_false_iff_not]
    exact fun h => hq h.1
end Go.GL
