/- The law PlanChecks, over the plain functions. -/
import Derived.Test.YtcpcdnjpdblhoaaKindsT1
import Derived.Test.YtcpcdnjpdblhoaaG12
set_option linter.unusedVariables false
set_option linter.unusedSimpArgs false
namespace Go.GL
open Go

theorem wi64_id {x : Int} (h1 : -9223372036854775808 ≤ x) (h2 : x ≤ 9223372036854775807) : wi64 x = x := by
  simp only [wi64, IntKind.wrap, IntKind.bits, IntKind.signed]
  simp
  omega

def wf_T_api_Step (x : T_api_Step) : Prop := (fun n => (Lit.int .i64 n).wf = true) x.Part ∧ (fun l => l.length ≤ reachBytes) x.Name ∧ (fun n => (Lit.int .i64 n).wf = true) x.Budget
def ms_T_api_Step (x : T_api_Step) : Nat := (fun _ => 1) x.Part + (fun l => l.length + 1) x.Name + (fun _ => 1) x.Budget

/-- A step that may stand. -/
def stepOk (s : T_api_Step) : Bool := decide (0 ≤ s.Part) && decide (s.Part < 4) && decide (1 ≤ s.Name.length) && decide (s.Name.length ≤ 16) && decide (1 ≤ s.Budget) && decide (s.Budget ≤ 9)

theorem getD_drop {α : Type} [Inhabited α] {l : List α} {i : Nat} (h : i < l.length) : l.drop i = rdL l (i : Int) :: l.drop (i + 1) := by
  rw [List.drop_eq_getElem_cons h]
  congr 1
  simp [rdL, h]

theorem plan_Check_l0 (n : Nat) (l : List T_api_Step) (hl : l.length ≤ 64) : ∀ (k i : Nat), i ≤ l.length → l.length - i < k →
    plan_Check.l0 n l k (i : Int) = some (if (l.drop i).all stepOk then 0 else 44)
  | 0, i, _, h => by omega
  | k + 1, i, hi, hk => by
    unfold plan_Check.l0
    by_cases h : i < l.length
    · rw [if_pos (by simpa using h), if_pos ⟨by omega, by omega⟩, getD_drop h]
      have ih := plan_Check_l0 n l hl k (i + 1) (by omega) (by omega)
      have e : wi64 ((i : Int) + 1) = ((i + 1 : Nat) : Int) := by rw [wi64_id (by omega) (by omega)]; omega
      generalize rdL l (i : Int) = s
      simp only [plan_Check.j1, e, ih, List.all_cons]
      simp only [stepOk]
      by_cases h1 : s.Part < 0
      · simp [h1]; omega
      by_cases h2 : s.Part ≥ 4
      · simp [h1, h2]; omega
      by_cases h3 : s.Name = []
      · simp [h1, h2, h3]
      have h3' : 1 ≤ s.Name.length := by cases hq : s.Name with | nil => exact absurd hq h3 | cons _ _ => simp
      by_cases h4 : (s.Name.length : Int) > 16
      · simp [h1, h2, h3, h4]; omega
      by_cases h5 : s.Budget < 1
      · simp [h1, h2, h3, h4, h5]; omega
      by_cases h6 : s.Budget > 9
      · simp [h1, h2, h3, h4, h5, h6]; omega
      have : (decide (0 ≤ s.Part) && decide (s.Part < 4) && decide (1 ≤ s.Name.length) && decide (s.Name.length ≤ 16) && decide (1 ≤ s.Budget) && decide (s.Budget ≤ 9)) = true := by
        simp only [Bool.and_eq_true, decide_eq_true_eq]; omega
      simp [h1, h2, h3, h4, h5, h6, this]
    · have : i = l.length := by omega
      rw [if_neg (by simpa using h)]
      subst this; simp

theorem ref13_Check_l0 (n : Nat) (l : List T_api_Step) (hl : l.length ≤ 64) : ∀ (k i : Nat) (bad : Bool), i ≤ l.length → l.length - i + 1 < k →
    tontineref13_Check.l0 n l k bad (i : Int) = some (if bad then 44 else if (l.drop i).all stepOk then 0 else 44)
  | 0, i, _, _, h => by omega
  | k + 1, i, bad, hi, hk => by
    unfold tontineref13_Check.l0
    cases bad with
    | true =>
      unfold tontineref13_Check.j1
      by_cases h : i < l.length <;> simp
    | false =>
    by_cases h : i < l.length
    · rw [if_pos (by simpa using h)]
      unfold tontineref13_Check.j1
      rw [if_pos (by rfl), if_pos ⟨by omega, by omega⟩, getD_drop h]
      have ih := fun bad => ref13_Check_l0 n l hl k (i + 1) bad (by omega) (by omega)
      have e : wi64 ((i : Int) + 1) = ((i + 1 : Nat) : Int) := by rw [wi64_id (by omega) (by omega)]; omega
      generalize rdL l (i : Int) = s
      simp only [tontineref13_Check.j2, e, ih, List.all_cons]
      simp only [stepOk]
      by_cases h1 : s.Part < 0
      · simp [h1]; omega
      by_cases h2 : s.Part > 3
      · simp [h1, h2]; omega
      by_cases h3 : (s.Name.length : Int) < 1
      · simp [h1, h2, h3]; omega
      by_cases h4 : (s.Name.length : Int) > 16
      · simp [h1, h2, h3, h4]; omega
      by_cases h5 : s.Budget < 1
      · simp [h1, h2, h3, h4, h5]; omega
      by_cases h6 : s.Budget > 9
      · simp [h1, h2, h3, h4, h5, h6]; omega
      have : (decide (0 ≤ s.Part) && decide (s.Part < 4) && decide (1 ≤ s.Name.length) && decide (s.Name.length ≤ 16) && decide (1 ≤ s.Budget) && decide (s.Budget ≤ 9)) = true := by
        simp only [Bool.and_eq_true, decide_eq_true_eq]; omega
      simp [h1, h2, h3, h4, h5, h6, this]
    · have : i = l.length := by omega
      rw [if_neg (by simpa using h)]
      unfold tontineref13_Check.j1
      subst this; simp

theorem begun13 : Ev (fun n => tontinelaw13_begun.f n) true :=
  Ev.ge 30 fun n hn => by
    obtain ⟨m, rfl⟩ : ∃ m, n = m + 30 := ⟨n - 30, by omega⟩
    rfl

theorem tontinelaw13_PlanChecks_law (l : List T_api_Step) (_ : l.length * 32 ≤ reachBytes ∧ ∀ x ∈ l, wf_T_api_Step x) : Ev (fun n => tontinelaw13_PlanChecks.f n l) true := by
  unfold tontinelaw13_PlanChecks.f
  refine Ev.bind begun13 ?_
  refine Ev.ge (l.length + 80) fun n hn => ?_
  simp only [Bool.not_true]
  unfold plan_Check.f tontineref13_Check.f plan_Check.j0 tontineref13_Check.j0
  by_cases h0 : l.length = 0
  · have : l = [] := List.length_eq_zero_iff.1 h0
    subst this
    obtain ⟨m, rfl⟩ : ∃ m, n = m + 30 := ⟨n - 30, by simp at hn; omega⟩
    rfl
  by_cases h : l.length ≤ 64
  · have a := plan_Check_l0 n l h n 0 (by omega) (by omega)
    have b := ref13_Check_l0 n l h n 0 false (by omega) (by omega)
    have h1 : ¬ ((l.length : Int) < 1) := by omega
    have h2 : ¬ ((l.length : Int) > 64) := by omega
    have h3 : ((l.length : Int) == 0) = false := by rw [beq_eq_false_iff_ne]; omega
    have a : plan_Check.l0 n l n 0 = _ := a
    have b : tontineref13_Check.l0 n l n false 0 = _ := b
    simp [h1, h2, h3, a, b]
  · have h1 : ¬ ((l.length : Int) < 1) := by omega
    have h2 : ((l.length : Int) > 64) := by omega
    have h3 : ((l.length : Int) == 0) = false := by rw [beq_eq_false_iff_ne]; omega
    obtain ⟨m, rfl⟩ : ∃ m, n = m + 1 := ⟨n - 1, by omega⟩
    simp [h1, h2, h3, tontineref13_Check.l0, tontineref13_Check.j1]
end Go.GL
