/- The law LedgerFences, over the plain functions. -/
import Derived.Test.YtmpockelhphkdaaLedg
set_option linter.unusedVariables false
set_option linter.unusedSimpArgs false
set_option maxRecDepth 10000
namespace Go.GL
open Go
theorem fences_j0 (n : Nat) (L : Int → Int → List T_ledger_Effect → List (T_api_Key × Bool) → List (T_api_Key × Bool) → Int → Int → Int → Option Bool) (x : Int) (r : Bool × Int × T_ledger_Ledger) (a b : Int) (h : r.2.2.fence = ⟨a, b⟩) :
    tontinelaw18_LedgerFences.j0 n L x r a b = L a b r.2.2.effects r.2.2.said r.2.2.tombs a b (wi64 (x + 1)) := by
  unfold tontinelaw18_LedgerFences.j0 ledger_Ledger_Fence.f
  rw [Option.bind_some, h]
  simp
theorem fences_l0 (n : Nat) (cs : List T_tontinelaw18_Call) : ∀ (j k i : Nat) (l : T_ledger_Ledger), i + j = 500 → j < k → l.effects.length ≤ i →
    tontinelaw18_LedgerFences.l0 n cs k l.fence.Term l.fence.Index l.effects l.said l.tombs l.fence.Term l.fence.Index (i : Int) = some true
  | j, 0, i, _, _, h, _ => by omega
  | 0, k + 1, i, l, hi, _, _ => by
    have : i = 500 := by omega
    subst this
    unfold tontinelaw18_LedgerFences.l0
    split
    · rename_i hl
      have hl : (500 : Int) < (cs.length : Int) := of_decide_eq_true hl
      rw [if_pos ⟨by omega, by omega⟩, if_pos (by rfl)]
    · rfl
  | j + 1, k + 1, i, l, hi, hk, he => by
    unfold tontinelaw18_LedgerFences.l0
    split
    rotate_left
    · rfl
    rename_i hl
    have hl : (i : Int) < (cs.length : Int) := of_decide_eq_true hl
    have w : wi64 ((i : Int) + 1) = ((i + 1 : Nat) : Int) := by rw [wi64_id (by omega) (by omega)]; omega
    have ea : ledger_Ledger_Ask.f n ⟨⟨l.fence.Term, l.fence.Index⟩, l.effects, l.said, l.tombs⟩ ⟨(rdL cs (i : Int)).Token.Term, (rdL cs (i : Int)).Token.Index⟩ ⟨(rdL cs (i : Int)).Key.Saga, (rdL cs (i : Int)).Key.Step, (rdL cs (i : Int)).Key.Back⟩ (rdL cs (i : Int)).Name (rdL cs (i : Int)).Fail = some (askM l (rdL cs (i : Int)).Token (rdL cs (i : Int)).Key (rdL cs (i : Int)).Name (rdL cs (i : Int)).Fail) := p_Ask n l _ _ _ _ (by omega)
    rw [if_pos ⟨by omega, by omega⟩, if_neg (by rw [beq_iff_eq]; omega), ea, Option.bind_some]
    have el : ledger_Less.f n ⟨(rdL cs (i : Int)).Token.Term, (rdL cs (i : Int)).Token.Index⟩ ⟨l.fence.Term, l.fence.Index⟩ = some (lessM (rdL cs (i : Int)).Token l.fence) := p_Less n _ _
    have ih := fun l' (h' : l'.effects.length ≤ i + 1) => fences_l0 n cs j k (i + 1) l' (by omega) (by omega) h'
    obtain ⟨hlen, hc⟩ := ask_fence l (rdL cs (i : Int)).Token (rdL cs (i : Int)).Key (rdL cs (i : Int)).Name (rdL cs (i : Int)).Fail
    generalize askM l (rdL cs (i : Int)).Token (rdL cs (i : Int)).Key (rdL cs (i : Int)).Name (rdL cs (i : Int)).Fail = r at *
    rcases hc with ⟨h1, h2⟩ | ⟨h1, h2, h3⟩ | ⟨h1, h2, h3, h4⟩
    · rw [if_pos (by rw [h1]; rfl), fences_j0 n _ _ r _ _ (by rw [h2]), w, h2]
      exact ih l (by omega)
    · rw [if_neg (by rw [h1]; decide), if_pos (by rw [h1]; rfl), el, Option.bind_some, h3, if_neg (by simp), fences_j0 n _ _ r _ _ (by rw [h2]), w, h2]
      exact ih l (by omega)
    · rw [if_neg (by rw [beq_iff_eq]; exact h1), if_neg (by rw [beq_iff_eq]; exact h2), el, Option.bind_some, h3, if_neg (by simp), fences_j0 n _ _ r _ _ h4, w]
      have := ih r.2.2 (by omega)
      rw [h4] at this
      exact this
theorem tontinelaw18_LedgerFences_law (cs : List T_tontinelaw18_Call) (h : cs.length * 64 ≤ reachBytes ∧ ∀ x ∈ cs, wf_T_tontinelaw18_Call x) : Ev (fun n => tontinelaw18_LedgerFences.f n cs) true := by
  refine Ev.ge 2000 fun n hn => ?_
  unfold tontinelaw18_LedgerFences.f ledger_New.f
  rw [begun18 n (by omega), Option.bind_some, if_neg (by simp), Option.bind_some]
  exact fences_l0 n cs 500 n 0 ⟨⟨0, 0⟩, [], [], []⟩ (by omega) (by omega) (by simp)
end Go.GL
