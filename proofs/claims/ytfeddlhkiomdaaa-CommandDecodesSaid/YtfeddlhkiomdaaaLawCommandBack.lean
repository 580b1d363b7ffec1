/- The law CommandBack, over the plain functions. -/
import Derived.Test.YtfeddlhkiomdaaaDec2
set_option linter.unusedVariables false
set_option linter.unusedSimpArgs false
namespace Go.GL
open Go

theorem same_l0 (n : Nat) (a : List T_api_Step) (ha : a.length ≤ 1000000) : ∀ (k i : Nat), i ≤ a.length → a.length - i < k → tontineref13_Same.l0 n a a k (i : Int) = some true
  | 0, i, _, h => by omega
  | k + 1, i, hi, hk => by
    unfold tontineref13_Same.l0
    by_cases h : i < a.length
    · have e : wi64 ((i : Int) + 1) = ((i + 1 : Nat) : Int) := by rw [wi64_id (by omega) (by omega)]; omega
      rw [if_pos (by simp <;> omega), if_pos ⟨by omega, by omega⟩, if_pos ⟨by omega, by omega⟩, if_neg (by simp), e]
      exact same_l0 n a ha k (i + 1) (by omega) (by omega)
    · rw [if_neg (by simp <;> omega)]
theorem same_f (n : Nat) (a : List T_api_Step) (ha : a.length ≤ 1000000) (hn : a.length < n) : tontineref13_Same.f n a a = some true := by
  unfold tontineref13_Same.f
  rw [if_neg (by simp)]
  exact same_l0 n a ha n 0 (by omega) (by omega)
theorem same_c (n : Nat) (c : T_api_Command) (ha : c.Steps.length ≤ 1000000) (hn : c.Steps.length < n) : tontineref16_Same.f n c c = some true := by
  unfold tontineref16_Same.f
  simp [same_f n c.Steps ha hn]
theorem may_steps {c : T_api_Command} (hm : mayB c = true) : c.Steps.length ≤ 64 := by
  by_cases h2 : c.Kind = 2
  · exact (chk_iff (mayB_two hm h2).1).2.1
  by_cases h4 : c.Kind = 4
  · rw [(mayB_four hm h4).1]; simp
  · rw [(mayB_plain hm h2 h4).2.1]; simp

theorem tontinelaw16_CommandBack_law (c : T_api_Command) (h : wf_T_api_Command c) : Ev (fun n => tontinelaw16_CommandBack.f n c) true := by
  unfold tontinelaw16_CommandBack.f
  refine Ev.bind begun16 (Ev.ge (c.Steps.length + 1000) fun n hn => ?_)
  rw [if_neg (by simp), p_Encode n c (by omega) h, Option.bind_some]
  unfold outC
  cases hk : ((c.Kind == 2) && !chk c.Steps)
  · simp only [Bool.false_eq_true, if_false]
    cases hm : mayB c
    · simp only [Bool.false_eq_true, if_false]; rfl
    · simp only [if_true]
      have := may_steps hm
      rw [if_neg (by simp), back_p n (by omega) c h hm, Option.bind_some, if_pos (by simp), same_c n c (by omega) (by omega)]
      rfl
  · simp only [if_true]
    have h2 : (c.Kind == 2) = true := by simp only [Bool.and_eq_true] at hk; exact hk.1
    rw [h2]
    rfl
end Go.GL
