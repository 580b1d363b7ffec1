/- The law LedgerTokens, over the plain functions. -/
import Derived.Test.YtmpockelhphkdaaLedg
set_option linter.unusedVariables false
set_option linter.unusedSimpArgs false
set_option maxRecDepth 10000
namespace Go.GL
open Go
theorem tontinelaw18_LedgerTokens_law (a b c : T_api_Token) (h1 : wf_T_api_Token a) (h2 : wf_T_api_Token b) (h3 : wf_T_api_Token c) : Ev (fun n => tontinelaw18_LedgerTokens.f n a b c) true := by
  refine Ev.ge 100 fun n hn => ?_
  have irr : lessM a a = false := by unfold lessM; rw [decide_eq_false_iff_not]; omega
  have asym : lessM a b = true → lessM b a = false := by
    unfold lessM; rw [decide_eq_true_eq, decide_eq_false_iff_not]; omega
  have tot : ((a.Term == b.Term) && ((a.Index == b.Index) && true)) = false → lessM a b = false → lessM b a = true := by
    intro h; unfold lessM; rw [decide_eq_false_iff_not, decide_eq_true_eq]
    have : ¬ (a.Term = b.Term ∧ a.Index = b.Index) := by
      intro hh; rw [hh.1, hh.2] at h; simp at h
    omega
  have tr : lessM a b = true → lessM b c = true → lessM a c = true := by
    unfold lessM; rw [decide_eq_true_eq, decide_eq_true_eq, decide_eq_true_eq]; omega
  have j0 : tontinelaw18_LedgerTokens.j0 n a b c false = some true := by
    unfold tontinelaw18_LedgerTokens.j0
    simp only [p_Less, Option.bind_some]
    cases hab : lessM a b
    · rfl
    · cases hbc : lessM b c
      · rfl
      · rw [tr hab hbc]; rfl
  unfold tontinelaw18_LedgerTokens.f
  rw [begun18 n (by omega), Option.bind_some, if_neg (by simp)]
  simp only [p_Less, r_Less, Option.bind_some, irr]
  cases hab : lessM a b
  · cases he : ((a.Term == b.Term) && ((a.Index == b.Index) && true))
    · have := tot he hab
      simp [this, j0]
    · simp [j0]
  · have := asym hab
    cases he : ((a.Term == b.Term) && ((a.Index == b.Index) && true))
    · simp [this, j0]
    · simp [this, j0]
end Go.GL
