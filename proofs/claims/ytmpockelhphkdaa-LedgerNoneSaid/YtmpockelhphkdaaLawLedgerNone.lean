/- The law LedgerNone, over the plain functions. -/
import Derived.Test.YtmpockelhphkdaaLedg
set_option linter.unusedVariables false
set_option linter.unusedSimpArgs false
set_option maxRecDepth 10000
namespace Go.GL
open Go
theorem tontinelaw18_LedgerNone_law (t : T_api_Token) (k : T_api_Key) (name : List UInt8) (h1 : wf_T_api_Token t) (h2 : wf_T_api_Key k) (h3 : name.length ≤ reachBytes) : Ev (fun n => tontinelaw18_LedgerNone.f n t k name) true := by
  refine Ev.ge 100 fun n hn => ?_
  have hT := wf_u64 h1.1
  have hI := wf_u64 h1.2
  have nl : lessM t ⟨0, 0⟩ = false := by unfold lessM; rw [decide_eq_false_iff_not]; simp only; omega
  have ea : ledger_Ledger_Ask.f n ⟨⟨0, 0⟩, [], [], []⟩ t k name false = some (askM ⟨⟨0, 0⟩, [], [], []⟩ t k name false) := p_Ask n _ t k name false (by simp)
  have ok : badK k name = false → ∃ b l, askM ⟨⟨0, 0⟩, [], [], []⟩ t k name false = (b, 0, l) := by
    intro hb
    unfold askM
    rw [hb]
    simp only [nl, getA, Option.getD_none]
    cases k.Back
    · exact ⟨_, _, rfl⟩
    · exact ⟨_, _, rfl⟩
  have bad : badK k name = true → askM ⟨⟨0, 0⟩, [], [], []⟩ t k name false = (false, 1, ⟨⟨0, 0⟩, [], [], []⟩) := by
    intro hb
    unfold askM
    rw [if_pos hb]
  have fin : tontinelaw18_LedgerNone.j0 n k (false, 1) (askM ⟨⟨0, 0⟩, [], [], []⟩ t k name false) (badK k name) = some true := by
    cases hb : badK k name
    · obtain ⟨b, l, e⟩ := ok hb
      rw [e]
      rfl
    · rw [bad hb]
      rfl
  unfold tontinelaw18_LedgerNone.f ledger_New.f
  rw [begun18 n (by omega), Option.bind_some, if_neg (by simp)]
  have en : ledger_Ledger_Ask_n0.f n t k name false = some (false, 1) := rfl
  rw [en, Option.bind_some, Option.bind_some]
  show (Option.bind (ledger_Ledger_Ask.f n ⟨⟨0, 0⟩, [], [], []⟩ t k name false) _) = _
  rw [ea, Option.bind_some]
  by_cases q1 : k.Step < 0
  · rw [if_pos (by simpa using q1)]
    have : badK k name = true := by unfold badK; rw [decide_eq_true_eq]; exact .inl q1
    rw [this] at fin; exact fin
  · rw [if_neg (by simpa using q1)]
    by_cases q2 : k.Step ≥ 64
    · rw [if_pos (by simpa using q2)]
      have : badK k name = true := by unfold badK; rw [decide_eq_true_eq]; exact .inr (.inl q2)
      rw [this] at fin; exact fin
    · rw [if_neg (by simpa using q2)]
      have : badK k name = decide ((name.length : Int) > 16) := by unfold badK; rw [Bool.eq_iff_iff, decide_eq_true_eq, decide_eq_true_eq]; omega
      rw [this] at fin; exact fin
end Go.GL
