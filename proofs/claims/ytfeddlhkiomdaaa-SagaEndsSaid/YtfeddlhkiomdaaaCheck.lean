/- What a definition's check answers, over the plain functions. -/
import Derived.Test.YtfeddlhkiomdaaaWf
set_option linter.unusedVariables false
set_option linter.unusedSimpArgs false
namespace Go.GL
open Go

/-- A step that may stand. -/
def stepOk (s : T_api_Step) : Bool := decide (0 ≤ s.Part) && decide (s.Part < 4) && decide (1 ≤ s.Name.length) && decide (s.Name.length ≤ 16) && decide (1 ≤ s.Budget) && decide (s.Budget ≤ 9)

theorem plan_Check_l0 (n : Nat) (l : List T_api_Step) (hl : l.length ≤ 64) : ∀ (k i : Nat), i ≤ l.length → l.length - i < k →
    plan_Check.l0 n l k (i : Int) = some (if (l.drop i).all stepOk then 0 else 44)
  | 0, i, _, h => by omega
  | k + 1, i, hi, hk => by
    unfold plan_Check.l0
    by_cases h : i < l.length
    · rw [if_pos (by simpa using h), if_pos ⟨by omega, by omega⟩, getD_drop h]
      have ih := plan_Check_l0 n l hl k (i + 1) (by omega) (by omega)
      have e : wi64 ((i : Int) + 1) = ((i + 1 : Nat) : Int) := by rw [wi64_id (by omega) (by omega)]; omega
      generalize rdL l (i : Int) = s
      simp only [plan_Check.j1, e, ih, List.all_cons]
      simp only [stepOk]
      by_cases h1 : s.Part < 0
      · simp [h1]; omega
      by_cases h2 : s.Part ≥ 4
      · simp [h1, h2]; omega
      by_cases h3 : s.Name = []
      · simp [h1, h2, h3]
      have h3' : 1 ≤ s.Name.length := by cases hq : s.Name with | nil => exact absurd hq h3 | cons _ _ => simp
      by_cases h4 : (s.Name.length : Int) > 16
      · simp [h1, h2, h3, h4]; omega
      by_cases h5 : s.Budget < 1
      · simp [h1, h2, h3, h4, h5]; omega
      by_cases h6 : s.Budget > 9
      · simp [h1, h2, h3, h4, h5, h6]; omega
      have : (decide (0 ≤ s.Part) && decide (s.Part < 4) && decide (1 ≤ s.Name.length) && decide (s.Name.length ≤ 16) && decide (1 ≤ s.Budget) && decide (s.Budget ≤ 9)) = true := by
        simp only [Bool.and_eq_true, decide_eq_true_eq]; omega
      simp [h1, h2, h3, h4, h5, h6, this]
    · have : i = l.length := by omega
      rw [if_neg (by simpa using h)]
      subst this; simp

theorem plan_Check_f (n : Nat) (l : List T_api_Step) (hn : l.length < n) : plan_Check.f n l = some (if 1 ≤ l.length ∧ l.length ≤ 64 ∧ l.all stepOk = true then 0 else 44) := by
  unfold plan_Check.f plan_Check.j0
  by_cases h1 : (l.length : Int) < 1
  · rw [if_pos (by simpa using h1), if_pos rfl, if_neg (by omega)]
  rw [if_neg (by simpa using h1)]
  by_cases h2 : (l.length : Int) > 64
  · rw [if_pos (by simpa using h2), if_neg (by omega)]
  rw [if_neg (by simpa using h2)]
  have := plan_Check_l0 n l (by omega) n 0 (by omega) (by omega)
  rw [List.drop_zero] at this
  refine Eq.trans this ?_
  by_cases h3 : l.all stepOk = true
  · rw [if_pos h3, if_pos ⟨by omega, by omega, h3⟩]
  · rw [if_neg h3, if_neg (by rintro ⟨_, _, h⟩; exact h3 h)]
end Go.GL
