/- Sagas: each outcome and each abort. No condition but the bounds named. -/
import Derived.Test.YtfeddlhkiomdaaaSaga
set_option linter.unusedVariables false
set_option linter.unusedSimpArgs false
set_option maxRecDepth 10000
namespace Go.GL
open Go

/-- Is an outcome wanted? -/
def takes (s : T_api_Saga) (step : Int) (taken : Bool) (tr : Int) (ok : Bool) : Prop := soundP s ∧ s.State ≤ 2 ∧ step = s.Cursor ∧ taken = decide (s.State = 2) ∧ (ok = true ∨ tr = s.Failed)
instance (s : T_api_Saga) (step : Int) (taken : Bool) (tr : Int) (ok : Bool) : Decidable (takes s step taken tr ok) := inferInstanceAs (Decidable (_ ∧ _))
def backS (s : T_api_Saga) (k : Int) : T_api_Saga := if k < 0 then ⟨s.Steps, 4, 0, 0⟩ else ⟨s.Steps, 2, k, 0⟩
/-- What an outcome that is wanted makes of a saga. -/
def nextS (s : T_api_Saga) (taken ok : Bool) : T_api_Saga :=
  if taken = false ∧ ok = true then (if s.Cursor + 1 = (s.Steps.length : Int) then ⟨s.Steps, 3, s.Cursor + 1, 0⟩ else ⟨s.Steps, 1, s.Cursor + 1, 0⟩)
  else if taken = true ∧ ok = false then (if s.Failed + 1 = bud s then ⟨s.Steps, 5, s.Cursor, s.Failed + 1⟩ else ⟨s.Steps, 2, s.Cursor, s.Failed + 1⟩)
  else backS s (s.Cursor - 1)
def outS (s : T_api_Saga) (step : Int) (taken : Bool) (tr : Int) (ok : Bool) : T_api_Saga × Bool := if takes s step taken tr ok then (nextS s taken ok, true) else (s, false)
def abS (s : T_api_Saga) : T_api_Saga × Bool := if soundP s ∧ s.State = 1 then (backS s s.Cursor, true) else (s, false)

theorem nextS_ft (s : T_api_Saga) : nextS s false true = if s.Cursor + 1 = (s.Steps.length : Int) then ⟨s.Steps, 3, s.Cursor + 1, 0⟩ else ⟨s.Steps, 1, s.Cursor + 1, 0⟩ := by unfold nextS; simp
theorem nextS_ff (s : T_api_Saga) : nextS s false false = backS s (s.Cursor - 1) := by unfold nextS; simp
theorem nextS_tt (s : T_api_Saga) : nextS s true true = backS s (s.Cursor - 1) := by unfold nextS; simp
theorem nextS_tf (s : T_api_Saga) : nextS s true false = if s.Failed + 1 = bud s then ⟨s.Steps, 5, s.Cursor, s.Failed + 1⟩ else ⟨s.Steps, 2, s.Cursor, s.Failed + 1⟩ := by unfold nextS; simp
theorem f_Wants (n : Nat) (s : T_api_Saga) (hn : s.Steps.length < n) : saga_Wants.f n s = some (if soundP s ∧ s.State ≤ 2 then (s.Cursor, s.State == 2, true) else (0, false, false)) := by
  unfold saga_Wants.f
  rw [f_Sound n s hn, Option.bind_some]
  by_cases hs : soundP s
  · rw [decide_eq_true hs, if_neg (by simp)]
    unfold saga_Ended.f
    have hr : 1 ≤ s.State ∧ s.State ≤ 5 := by
      rcases hs.2.2 with h | h | h | h | h <;> (have := h.1; omega)
    by_cases h3 : s.State ≥ 3
    · rw [if_pos (by simpa using h3), Option.bind_some, decide_eq_true (by omega), if_neg (fun h => by omega)]
      rfl
    · rw [if_neg (by simpa using h3), Option.bind_some, if_pos ⟨hs, by omega⟩]
      rfl
  · rw [decide_eq_false hs, if_pos (by simp), if_neg (fun h => hs h.1)]
    rfl
theorem len_ok {s : T_api_Saga} (h : soundP s) : s.Steps.length ≤ 64 := h.1.2.1
theorem f_Outcome (n : Nat) (s : T_api_Saga) (step : Int) (taken : Bool) (tr : Int) (ok : Bool) (hn : s.Steps.length < n) : saga_Outcome.f n s step taken tr ok = some (outS s step taken tr ok) := by
  unfold saga_Outcome.f
  rw [f_Wants n s hn, Option.bind_some]
  have hno : ¬ takes s step taken tr ok → saga_Outcome.j0 n s step taken ok true = some (outS s step taken tr ok) := by
    intro h
    unfold outS
    rw [if_neg h]
    rfl
  by_cases hw : soundP s ∧ s.State ≤ 2
  · rw [if_pos hw]
    simp only [Bool.not_true, Bool.false_eq_true, if_false]
    by_cases h1 : step = s.Cursor
    · subst h1
      rw [if_neg (by simp)]
      by_cases h2 : taken = decide (s.State = 2)
      · have e2 : ((s.State == 2) == taken) = true := by
          rw [beq_iff_eq, h2, Bool.eq_iff_iff, beq_iff_eq, decide_eq_true_eq]
        rw [e2, if_neg (by simp)]
        have hyes : (ok = true ∨ tr = s.Failed) → saga_Outcome.j0 n s s.Cursor taken ok false = some (outS s s.Cursor taken tr ok) := by
          intro h3
          unfold outS
          rw [if_pos ⟨hw.1, hw.2, rfl, h2, h3⟩]
          have hL := len_ok hw.1
          have hst := hw.1.2.2
          have hc : within s := by
            rcases hst with h | h | h | h | h
            · exact h.2.1
            · exact h.2.1
            · have := h.1; omega
            · have := h.1; omega
            · exact h.2.1
          have hb := bud_pos hw.1.1 hc
          have hc1 := hc.1
          have hc2 := hc.2
          have w1 : wi64 (s.Cursor + 1) = s.Cursor + 1 := wi64_id (by omega) (by omega)
          have w2 : wi64 (s.Cursor - 1) = s.Cursor - 1 := wi64_id (by omega) (by omega)
          have hback : saga_Outcome.j1 n s s.Cursor = some (backS s (s.Cursor - 1), true) := by
            unfold saga_Outcome.j1 saga_back.f backS
            rw [w2]
            by_cases h : s.Cursor - 1 < 0
            · rw [if_pos (by simpa using h), if_pos h]; rfl
            · rw [if_neg (by simpa using h), if_neg h]; rfl
          unfold saga_Outcome.j0
          rw [if_neg (by simp)]
          cases taken with
          | false =>
            have hs1 : s.State = 1 ∧ s.Failed = 0 := by
              rcases hst with h | h | h | h | h
              · exact ⟨h.1, h.2.2⟩
              · rw [h.1] at h2; cases h2
              · have := h.1; omega
              · have := h.1; omega
              · have := h.1; omega
            rw [if_pos (by simp)]
            unfold saga_Outcome.j2
            cases ok with
            | true =>
              rw [if_pos rfl, w1, nextS_ft]
              unfold saga_Outcome.j3
              rw [w1, hs1.1, hs1.2]
              by_cases h : s.Cursor + 1 = (s.Steps.length : Int)
              · rw [if_pos (by simpa using h), if_pos h]
              · rw [if_neg (by simpa using h), if_neg h]
            | false =>
              rw [if_neg (by simp), if_pos (by simp), hback, nextS_ff]
          | true =>
            have hs2 : s.State = 2 ∧ s.Failed < bud s := by
              rcases hst with h | h | h | h | h
              · rw [h.1] at h2; cases h2
              · exact ⟨h.1, h.2.2⟩
              · have := h.1; omega
              · have := h.1; omega
              · have := h.1; omega
            rw [if_neg (by simp)]
            unfold saga_Outcome.j2
            rw [if_neg (by simp), if_neg (by simp)]
            cases ok with
            | true =>
              rw [if_pos rfl, hback, nextS_tt]
            | false =>
              have hF := hw.1.2.1
              have w3 : wi64 (s.Failed + 1) = s.Failed + 1 := wi64_id (by omega) (by omega)
              rw [if_neg (by simp), if_pos ⟨hc1, hc2⟩, w3]
              rw [nextS_tf]
              show (if (s.Failed + 1 == bud s) = true then _ else _) = _
              by_cases h : s.Failed + 1 = bud s
              · rw [if_pos (by simpa using h), if_pos h]
              · rw [if_neg (by simpa using h), if_neg h, hs2.1]
        cases ok with
        | true => rw [if_neg (by simp)]; exact hyes (.inl rfl)
        | false =>
          rw [if_pos (by simp)]
          by_cases h3 : tr = s.Failed
          · rw [show (tr != s.Failed) = false by simp [h3]]; exact hyes (.inr h3)
          · rw [show (tr != s.Failed) = true by simp [h3]]; exact hno fun h => h.2.2.2.2.elim (fun q => by cases q) h3
      · have e2 : ((s.State == 2) == taken) = false := by
          rw [beq_eq_false_iff_ne]
          intro h
          apply h2
          rw [← h, Bool.eq_iff_iff, beq_iff_eq, decide_eq_true_eq]
        rw [e2, if_pos (by simp)]
        exact hno fun h => h2 h.2.2.2.1
    · rw [if_pos (by simpa using fun h => h1 h.symm)]
      exact hno fun h => h1 h.2.2.1
  · rw [if_neg hw]
    simp only [Bool.not_false, if_true]
    exact hno fun h => hw ⟨h.1, h.2.1⟩
theorem f_Abort (n : Nat) (s : T_api_Saga) (hn : s.Steps.length < n) : saga_Abort.f n s = some (abS s) := by
  unfold saga_Abort.f
  rw [f_Sound n s hn, Option.bind_some]
  unfold abS
  by_cases hs : soundP s
  · rw [decide_eq_true hs, if_neg (by simp)]
    unfold saga_Abort.j0 saga_back.f
    by_cases h1 : s.State = 1
    · rw [show (s.State != 1) = false by simp [h1], if_neg (by simp), if_pos (show soundP s ∧ s.State = 1 from ⟨hs, h1⟩)]
      unfold backS
      by_cases h : s.Cursor < 0
      · rw [if_pos (show decide (s.Cursor < 0) = true by simpa using h), if_pos h]; rfl
      · rw [if_neg (show ¬ decide (s.Cursor < 0) = true by simpa using h), if_neg h]; rfl
    · rw [show (s.State != 1) = true by simp [h1], if_pos rfl, if_neg (show ¬ (soundP s ∧ s.State = 1) from fun h => h1 h.2)]
  · rw [decide_eq_false hs, if_pos (by simp), if_neg (fun h => hs h.1)]
    rfl
theorem nextS_sound {s : T_api_Saga} {taken ok : Bool} (hs : soundP s) (h2 : s.State ≤ 2) (ht : taken = decide (s.State = 2)) : soundP (nextS s taken ok) ∧ (nextS s taken ok).Steps = s.Steps := by
  have hst := hs.2.2
  have hc : within s := by
    rcases hst with h | h | h | h | h
    · exact h.2.1
    · exact h.2.1
    · have := h.1; omega
    · have := h.1; omega
    · exact h.2.1
  have hc1 := hc.1
  have hc2 := hc.2
  have hb := bud_pos hs.1 hc
  have hback : soundP (backS s (s.Cursor - 1)) ∧ (backS s (s.Cursor - 1)).Steps = s.Steps := by
    unfold backS
    split
    · exact ⟨⟨hs.1, Int.le_refl _, .inr (.inr (.inr (.inl ⟨rfl, rfl, rfl⟩)))⟩, rfl⟩
    · rename_i h
      have hw : within ⟨s.Steps, 2, s.Cursor - 1, 0⟩ := ⟨by show 0 ≤ s.Cursor - 1; omega, by show s.Cursor - 1 < (s.Steps.length : Int); omega⟩
      have := bud_pos (s := ⟨s.Steps, 2, s.Cursor - 1, 0⟩) hs.1 hw
      exact ⟨⟨hs.1, Int.le_refl _, .inr (.inl ⟨rfl, hw, by show (0 : Int) < _; omega⟩)⟩, rfl⟩
  unfold nextS
  split
  · split
    · rename_i h
      exact ⟨⟨hs.1, Int.le_refl _, .inr (.inr (.inl ⟨rfl, h, rfl⟩))⟩, rfl⟩
    · rename_i h
      exact ⟨⟨hs.1, Int.le_refl _, .inl ⟨rfl, ⟨by show 0 ≤ s.Cursor + 1; omega, by show s.Cursor + 1 < (s.Steps.length : Int); omega⟩, rfl⟩⟩, rfl⟩
  · split
    · rename_i _ hq
      have hs2 : s.State = 2 ∧ s.Failed < bud s := by
        rcases hst with h | h | h | h | h
        · rw [ht, h.1] at hq; cases hq.1
        · exact ⟨h.1, h.2.2⟩
        · have := h.1; omega
        · have := h.1; omega
        · have := h.1; omega
      have hF := hs.2.1
      split
      · rename_i h
        exact ⟨⟨hs.1, by show 0 ≤ s.Failed + 1; omega, .inr (.inr (.inr (.inr ⟨rfl, hc, h⟩)))⟩, rfl⟩
      · rename_i h
        have h' : s.Failed + 1 < bud s := by omega
        exact ⟨⟨hs.1, by show 0 ≤ s.Failed + 1; omega, .inr (.inl ⟨rfl, hc, h'⟩)⟩, rfl⟩
    · exact hback
theorem backS_sound {s : T_api_Saga} (hs : soundP s) (h1 : s.State = 1) : soundP (backS s s.Cursor) ∧ (backS s s.Cursor).Steps = s.Steps := by
  have hc : within s := by
    rcases hs.2.2 with h | h | h | h | h
    · exact h.2.1
    all_goals (have := h.1; omega)
  unfold backS
  rw [if_neg (by have := hc.1; omega)]
  have := bud_pos hs.1 hc
  exact ⟨⟨hs.1, Int.le_refl _, .inr (.inl ⟨rfl, hc, by show (0 : Int) < bud s; omega⟩)⟩, rfl⟩
theorem same_l1 (n : Nat) (a : List T_api_Step) (ha : a.length ≤ 1000000000000000) : ∀ (k i : Nat), i ≤ a.length → a.length - i < k → tontineref13_Same.l0 n a a k (i : Int) = some true
  | 0, i, _, h => by omega
  | k + 1, i, hi, hk => by
    unfold tontineref13_Same.l0
    by_cases h : i < a.length
    · rw [if_pos (by simp; omega), if_pos ⟨by omega, by omega⟩, if_pos ⟨by omega, by omega⟩, if_neg (by simp), wi64_id (by omega) (by omega), show ((i : Int) + 1) = ((i + 1 : Nat) : Int) by omega]
      exact same_l1 n a ha k (i + 1) (by omega) (by omega)
    · rw [if_neg (by simp; omega)]
theorem same_s (n : Nat) (s : T_api_Saga) (hs : s.Steps.length ≤ 1000000000000000) (hn : s.Steps.length < n) : tontineref14_Same.f n s s = some true := by
  unfold tontineref14_Same.f tontineref13_Same.f
  rw [if_pos (by simp), if_pos (by simp), if_pos (by simp), if_neg (by simp)]
  have := same_l1 n s.Steps hs n 0 (by omega) (by omega)
  rw [show ((0 : Nat) : Int) = 0 by rfl] at this
  rw [this]
  rfl
end Go.GL
